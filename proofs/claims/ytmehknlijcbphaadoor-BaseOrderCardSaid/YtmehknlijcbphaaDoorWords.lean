/- Words of my own for walks: what turns and what stays; maps keyed by int, entry by entry; a range over such a map; no program in sight, no condition. -/
import Derived.WalkKit
import Derived.WalkSpells
import Derived.WalkLawsBesides
import Derived.Lib.Hide
import Derived.Laws.AppendOwnNone
namespace Go.Proofs.YtmehknlijcbphaaDoor
open Go.RowKit

/-! ### worlds -/
/-- w' is w but for blocks of S; the streams are as they were. -/
structure Turn (S : Nat → Prop) (w w' : World) : Prop where
  os : w'.os = w.os
  tape : w'.tape = w.tape
  output : w'.output = w.output
  size : w.heap.size ≤ w'.heap.size
  block : ∀ k, k < w.heap.size → ¬ S k → w'.heap[k]? = w.heap[k]?

theorem Turn.refl (S : Nat → Prop) (w : World) : Turn S w w := ⟨rfl, rfl, rfl, Nat.le_refl _, fun _ _ _ => rfl⟩
theorem Turn.trans {S : Nat → Prop} {a b c : World} (h : Turn S a b) (k : Turn S b c) : Turn S a c :=
  ⟨k.os.trans h.os, k.tape.trans h.tape, k.output.trans h.output, Nat.le_trans h.size k.size, fun i hi hn => (k.block i (Nat.lt_of_lt_of_le hi h.size) hn).trans (h.block i hi hn)⟩
theorem Turn.mono {S S' : Nat → Prop} {a b : World} (h : Turn S a b) (hs : ∀ k, k < a.heap.size → S k → S' k) : Turn S' a b :=
  ⟨h.os, h.tape, h.output, h.size, fun i hi hn => h.block i hi (fun e => hn (hs i hi e))⟩
theorem Turn.below {S : Nat → Prop} {a b : World} (h : Turn S a b) {B : Nat} (hB : B ≤ a.heap.size) (hs : ∀ k, S k → B ≤ k) : Below B a b :=
  ⟨h.os, h.tape, h.output, h.size, fun k hk => h.block k (Nat.lt_of_lt_of_le hk hB) (fun e => by have := hs k e; omega)⟩
theorem turn_of_below {S : Nat → Prop} {B : Nat} {a b : World} (h : Below B a b) (hs : ∀ k, k < a.heap.size → B ≤ k → S k) : Turn S a b :=
  ⟨h.os, h.tape, h.output, h.size, fun i hi hn => h.block i (Nat.lt_of_not_le fun e => hn (hs i hi e))⟩
theorem Turn.alloc {S : Nat → Prop} {a b : World} (h : Turn S a b) (o : Obj) : Turn S a (b.alloc o) :=
  h.trans ⟨rfl, rfl, rfl, by simp, fun k hk _ => Below.heap_alloc _ _ _ hk⟩
theorem Turn.drew {S : Nat → Prop} {a b : World} (h : Turn S a b) : Turn S a b.drew := ⟨h.os, h.tape, h.output, h.size, h.block⟩
theorem Turn.drewN {S : Nat → Prop} {a b : World} (h : Turn S a b) (n : Nat) : Turn S a (b.drewN n) := ⟨h.os, h.tape, h.output, h.size, h.block⟩
theorem Turn.setCell {S : Nat → Prop} {a b : World} (h : Turn S a b) {p : Addr} (hp : S p.block) (u : Value) : Turn S a (b.setCell p u) :=
  h.trans ⟨rfl, rfl, rfl, by simp, fun k _ hn => Below.heap_setCell _ _ _ _ (fun e => hn (e ▸ hp))⟩
theorem Turn.then {S : Nat → Prop} {a b c : World} (h : Turn S a b) (k : Below b.heap.size b c) : Turn S a c :=
  h.trans ⟨k.os, k.tape, k.output, k.size, fun i hi _ => k.block i hi⟩
theorem below_then {B : Nat} {w w1 w2 : World} (h : Below B w w1) (hB : B ≤ w1.heap.size) (k : Below w1.heap.size w1 w2) : Below B w w2 :=
  h.trans ⟨k.os, k.tape, k.output, k.size, fun i hi => k.block i (Nat.lt_of_lt_of_le hi hB)⟩
theorem below_drewN {B : Nat} {w W : World} (h : Below B w W) (n : Nat) : Below B w (W.drewN n) := ⟨h.os, h.tape, h.output, h.size, h.block⟩
theorem below_cell {B : Nat} {W w1 : World} (hb : Below B W w1) {a : Addr} {v : Value} (h : W.cell? a = some v) (hlt : a.block < B) : w1.cell? a = some v := (hb.cell hlt).trans h
theorem row_cells {w : World} {g : Nat} {cs : Array Value} {T : TypeId} {f : Nat × Nat} (h : w.heap[g]? = some (.cells cs T f)) (i : Nat) (v : Value) (hv : cs[i]? = some v) : w.cell? ⟨g, i, none⟩ = some v := by
  simp [World.cell?, h, hv]
theorem row_free {w : World} {g : Nat} {cs : Array Value} {T : TypeId} (h : w.heap[g]? = some (.cells cs T)) (i : Nat) : w.frozen? ⟨g, i, none⟩ = false := by
  simp [World.frozen?, h]
theorem heap_lt {w : World} {b : Nat} {o : Obj} (h : w.heap[b]? = some o) : b < w.heap.size := (Array.getElem?_eq_some_iff.1 h).1

theorem heap_alloc_get (w : World) (o : Obj) (k : Nat) : (w.alloc o).heap[k]? = if k = w.heap.size then some o else w.heap[k]? := by
  show (w.heap.push o)[k]? = _
  rw [Array.getElem?_push]
theorem new0 (w : World) (o : Obj) : (w.alloc o).heap[w.heap.size]? = some o := heap_alloc_new w o
theorem old1 {w : World} {k : Nat} {x : Obj} (h : w.heap[k]? = some x) (o : Obj) : (w.alloc o).heap[k]? = some x := (Below.heap_alloc _ _ _ (heap_lt h)).trans h
theorem new20 (w : World) (o p : Obj) : ((w.alloc o).alloc p).heap[w.heap.size]? = some o := old1 (new0 w o) p
theorem new21 (w : World) (o p : Obj) : ((w.alloc o).alloc p).heap[w.heap.size + 1]? = some p := by
  rw [← World.size_alloc (o := o)]; exact new0 _ _
theorem new30 (w : World) (o p q : Obj) : (((w.alloc o).alloc p).alloc q).heap[w.heap.size]? = some o := old1 (new20 w o p) q
theorem new31 (w : World) (o p q : Obj) : (((w.alloc o).alloc p).alloc q).heap[w.heap.size + 1]? = some p := old1 (new21 w o p) q
theorem new32 (w : World) (o p q : Obj) : (((w.alloc o).alloc p).alloc q).heap[w.heap.size + 1 + 1]? = some q := by
  rw [← World.size_alloc (o := o)]; exact new21 _ _ _
theorem cellAlloc {w : World} {a : Addr} {v : Value} (h : w.cell? a = some v) (o : Obj) : (w.alloc o).cell? a = some v := (World.cell?_alloc_lt _ _ _ (World.block_lt_of_cell? w a h)).trans h
theorem cellBelow {w w' : World} {a : Addr} {v : Value} (h : w.cell? a = some v) {B : Nat} (hb : Below B w w') (hB : a.block < B) : w'.cell? a = some v := (hb.cell hB).trans h
theorem addr_block (a : Addr) (k : Nat) : (a.add k).block = a.block := by unfold Addr.add; split <;> rfl
theorem rowB {B : Nat} {W w1 : World} (hb : Below B W w1) {g : Nat} {o : Obj} (h : W.heap[g]? = some o) (hg : g < B) : w1.heap[g]? = some o := (hb.block g hg).trans h
theorem rowT {S : Nat → Prop} {W w1 : World} (ht : Turn S W w1) {g : Nat} {o : Obj} (h : W.heap[g]? = some o) (hg : ¬ S g) : w1.heap[g]? = some o := (ht.block g (heap_lt h) hg).trans h
theorem rowSet {w : World} {g : Nat} {cs : Array Value} {T : TypeId} {f : Nat × Nat} (h : w.heap[g]? = some (.cells cs T f)) (i : Nat) (v : Value) : (w.setCell ⟨g, i, none⟩ v).heap[g]? = some (.cells (cs.setIfInBounds i v) T f) := by
  simp [World.setCell, Array.getElem?_modify, h]
theorem rowSetNe {w : World} {g k i : Nat} {o : Obj} (h : w.heap[g]? = some o) (hne : g ≠ k) (v : Value) : (w.setCell ⟨k, i, none⟩ v).heap[g]? = some o := (Below.heap_setCell _ _ _ _ hne).trans h
theorem cellsH {w : World} {g : Nat} {cs : Array Value} {T : TypeId} {f : Nat × Nat} (h : w.heap[g]? = some (.cells cs T f)) : ∀ i, w.cell? ⟨g, i, none⟩ = cs[i]? := by
  intro i
  simp [World.cell?, h]
theorem freeH {w : World} {g : Nat} {cs : Array Value} {T : TypeId} (h : w.heap[g]? = some (.cells cs T)) : ∀ i, w.frozen? ⟨g, i, none⟩ = false := by
  intro i
  simp [World.frozen?, h]
theorem rowsOf {B : Nat} {W w1 : World} (hb : Below B W w1) {g : Nat} {cs : Array Value} {T : TypeId} {f : Nat × Nat} (h : W.heap[g]? = some (.cells cs T f)) (hg : g < B) : ∀ i, w1.cell? ⟨g, i, none⟩ = cs[i]? := by
  intro i
  simp [World.cell?, hb.block g hg, h]
theorem freeOf {B : Nat} {W w1 : World} (hb : Below B W w1) {g : Nat} {cs : Array Value} {T : TypeId} (h : W.heap[g]? = some (.cells cs T)) (hg : g < B) : ∀ i, w1.frozen? ⟨g, i, none⟩ = false := by
  intro i
  simp [World.frozen?, hb.block g hg, h]

/-! ### a map keyed by int, entry by entry -/
/-- The place and the value of a key. -/
def ix {β : Type} : List (Int × β) → Int → Option (Nat × β)
  | [], _ => none
  | p :: r, k => if k = p.1 then some (0, p.2) else (ix r k).map fun q => (q.1 + 1, q.2)
/-- The value of a key. -/
def get {β : Type} (l : List (Int × β)) (k : Int) : Option β := (ix l k).map (·.2)
/-- A key stored: in its place if it is there, else at the end. -/
def put {β : Type} (l : List (Int × β)) (k : Int) (v : β) : List (Int × β) :=
  match ix l k with
  | some q => l.set q.1 (k, v)
  | none => l ++ [(k, v)]
/-- A key struck. -/
def del {β : Type} (l : List (Int × β)) (k : Int) : List (Int × β) :=
  match ix l k with
  | some q => l.eraseIdx q.1
  | none => l

/-- The entries of a block's map are those of l, stamped in rising order. -/
structure Lies (es : Array MapEntry) (clock : Nat) (l : List (Int × Value)) : Prop where
  kv : es.toList.map (fun e => (e.key, e.val)) = l.map fun p => (Value.int .i64 p.1, p.2)
  rise : (es.toList.map (·.born)).Pairwise (· < ·)
  born : ∀ e ∈ es.toList, e.born < clock
  nodup : (l.map (·.1)).Nodup

/-- Block b of w is a map whose entries are l. -/
def MapAt (w : World) (b : Nat) (l : List (Int × Value)) : Prop := ∃ es clock, w.heap[b]? = some (.map es clock) ∧ Lies es clock l

theorem Lies.length {es : Array MapEntry} {clock : Nat} {l : List (Int × Value)} (h : Lies es clock l) : es.size = l.length := by
  have := congrArg List.length h.kv
  simpa using this

theorem MapAt.lt {w : World} {b : Nat} {l : List (Int × Value)} (h : MapAt w b l) : b < w.heap.size := by
  obtain ⟨_, _, hb, _⟩ := h
  exact heap_lt hb
theorem MapAt.nodup {w : World} {b : Nat} {l : List (Int × Value)} (h : MapAt w b l) : (l.map (·.1)).Nodup := by
  obtain ⟨_, _, _, hl⟩ := h
  exact hl.nodup
theorem MapAt.same {w w' : World} {b : Nat} {l : List (Int × Value)} (h : MapAt w b l) (e : w'.heap[b]? = w.heap[b]?) : MapAt w' b l := by
  obtain ⟨es, c, hb, hl⟩ := h
  exact ⟨es, c, e.trans hb, hl⟩
theorem MapAt.below {w w' : World} {b B : Nat} {l : List (Int × Value)} (h : MapAt w b l) (hb : Below B w w') (hB : b < B) : MapAt w' b l := h.same (hb.block b hB)
theorem MapAt.turn {S : Nat → Prop} {w w' : World} {b : Nat} {l : List (Int × Value)} (h : MapAt w b l) (ht : Turn S w w') (hB : ¬ S b) : MapAt w' b l := h.same (ht.block b h.lt hB)
theorem MapAt.alloc {w : World} {b : Nat} {l : List (Int × Value)} (h : MapAt w b l) (o : Obj) : MapAt (w.alloc o) b l := h.same (Below.heap_alloc _ _ _ h.lt)
theorem MapAt.drew {w : World} {b : Nat} {l : List (Int × Value)} (h : MapAt w b l) : MapAt w.drew b l := h
theorem MapAt.drewN {w : World} {b : Nat} {l : List (Int × Value)} (h : MapAt w b l) (n : Nat) : MapAt (w.drewN n) b l := h
theorem MapAt.setCell {w : World} {b : Nat} {l : List (Int × Value)} (h : MapAt w b l) {a : Addr} (hne : b ≠ a.block) (v : Value) : MapAt (w.setCell a v) b l := h.same (Below.heap_setCell _ _ _ _ hne)
theorem MapAt.made (w : World) : MapAt (w.alloc (.map #[] 0)) w.heap.size [] :=
  ⟨#[], 0, heap_alloc_new w _, ⟨rfl, by simp, by simp, by simp⟩⟩

theorem ix_get {β : Type} {l : List (Int × β)} {k : Int} {i : Nat} {v : β} (h : ix l k = some (i, v)) : l[i]? = some (k, v) := by
  induction l generalizing i with
  | nil => simp [ix] at h
  | cons p r ih =>
    unfold ix at h
    split at h
    · rename_i e
      simp only [Option.some.injEq, Prod.mk.injEq] at h
      obtain ⟨rfl, rfl⟩ := h
      simp [e]
    · obtain ⟨q, hq, e⟩ := Option.map_eq_some_iff.1 h
      simp only [Prod.mk.injEq] at e
      obtain ⟨rfl, rfl⟩ := e
      simpa using ih (i := q.1) hq
theorem ix_none {β : Type} {l : List (Int × β)} {k : Int} : ix l k = none ↔ k ∉ l.map (·.1) := by
  induction l with
  | nil => simp [ix]
  | cons p r ih =>
    unfold ix
    split
    · rename_i e; simp [e]
    · rename_i e
      simp [ih]
      exact fun _ => e

/-- Two lists whose members are kin, place by place. -/
inductive All2 {α β : Type} (R : α → β → Prop) : List α → List β → Prop
  | nil : All2 R [] []
  | cons {a : α} {b : β} {l : List α} {m : List β} (h : R a b) (t : All2 R l m) : All2 R (a :: l) (b :: m)
theorem All2.length_eq {α β : Type} {R : α → β → Prop} {l : List α} {m : List β} (h : All2 R l m) : l.length = m.length := by
  induction h with
  | nil => rfl
  | cons _ _ ih => simp [ih]
theorem All2.imp {α β : Type} {R R' : α → β → Prop} (hi : ∀ x y, R x y → R' x y) {l : List α} {m : List β} (h : All2 R l m) : All2 R' l m := by
  induction h with
  | nil => exact .nil
  | cons h1 _ ih => exact .cons (hi _ _ h1) ih

/-- Two lists with the same keys, whose values are kin. -/
def Kin {α β : Type} (R : α → β → Prop) (l : List (Int × α)) (m : List (Int × β)) : Prop := All2 (fun p q => p.1 = q.1 ∧ R p.2 q.2) l m
theorem Kin.keys {α β : Type} {R : α → β → Prop} {l : List (Int × α)} {m : List (Int × β)} (h : Kin R l m) : l.map (·.1) = m.map (·.1) := by
  induction h with
  | nil => rfl
  | cons h1 _ ih => simp [h1.1, ih]
theorem Kin.length {α β : Type} {R : α → β → Prop} {l : List (Int × α)} {m : List (Int × β)} (h : Kin R l m) : l.length = m.length := All2.length_eq h
theorem Kin.imp {α β : Type} {R R' : α → β → Prop} {l : List (Int × α)} {m : List (Int × β)} (h : Kin R l m) (hi : ∀ x y, R x y → R' x y) : Kin R' l m :=
  All2.imp (fun _ _ h => ⟨h.1, hi _ _ h.2⟩) h
theorem Kin.ix {α β : Type} {R : α → β → Prop} {l : List (Int × α)} {m : List (Int × β)} (h : Kin R l m) (k : Int) :
    (Go.Proofs.YtmehknlijcbphaaDoor.ix l k = none ∧ Go.Proofs.YtmehknlijcbphaaDoor.ix m k = none) ∨ ∃ i x y, Go.Proofs.YtmehknlijcbphaaDoor.ix l k = some (i, x) ∧ Go.Proofs.YtmehknlijcbphaaDoor.ix m k = some (i, y) ∧ R x y := by
  induction h with
  | nil => exact .inl ⟨rfl, rfl⟩
  | cons h1 _ ih =>
    rename_i p q l m _
    unfold Go.Proofs.YtmehknlijcbphaaDoor.ix
    rw [← h1.1]
    by_cases e : k = p.1
    · simp only [if_pos e]
      exact .inr ⟨0, _, _, rfl, rfl, h1.2⟩
    · simp only [if_neg e]
      rcases ih with ⟨a, b⟩ | ⟨i, x, y, a, b, r⟩
      · exact .inl ⟨by rw [a]; rfl, by rw [b]; rfl⟩
      · exact .inr ⟨i + 1, x, y, by rw [a]; rfl, by rw [b]; rfl, r⟩
theorem Kin.get {α β : Type} {R : α → β → Prop} {l : List (Int × α)} {m : List (Int × β)} (h : Kin R l m) (k : Int) :
    (Go.Proofs.YtmehknlijcbphaaDoor.get l k = none ∧ Go.Proofs.YtmehknlijcbphaaDoor.get m k = none) ∨ ∃ x y, Go.Proofs.YtmehknlijcbphaaDoor.get l k = some x ∧ Go.Proofs.YtmehknlijcbphaaDoor.get m k = some y ∧ R x y := by
  rcases h.ix k with ⟨a, b⟩ | ⟨i, x, y, a, b, r⟩
  · exact .inl ⟨by simp [Go.Proofs.YtmehknlijcbphaaDoor.get, a], by simp [Go.Proofs.YtmehknlijcbphaaDoor.get, b]⟩
  · exact .inr ⟨x, y, by simp [Go.Proofs.YtmehknlijcbphaaDoor.get, a], by simp [Go.Proofs.YtmehknlijcbphaaDoor.get, b], r⟩
theorem forall2_set {α β : Type} {R : α → β → Prop} {l : List α} {m : List β} (h : All2 R l m) (i : Nat) {x : α} {y : β} (r : R x y) : All2 R (l.set i x) (m.set i y) := by
  induction h generalizing i with
  | nil => exact .nil
  | cons h1 h2 ih =>
    cases i with
    | zero => exact .cons r h2
    | succ i => exact .cons h1 (ih i)
theorem forall2_erase {α β : Type} {R : α → β → Prop} {l : List α} {m : List β} (h : All2 R l m) (i : Nat) : All2 R (l.eraseIdx i) (m.eraseIdx i) := by
  induction h generalizing i with
  | nil => exact .nil
  | cons h1 h2 ih =>
    cases i with
    | zero => exact h2
    | succ i => exact .cons h1 (ih i)
theorem forall2_append {α β : Type} {R : α → β → Prop} {l l' : List α} {m m' : List β} (h : All2 R l m) (h' : All2 R l' m') : All2 R (l ++ l') (m ++ m') := by
  induction h with
  | nil => exact h'
  | cons h1 _ ih => exact .cons h1 ih
theorem forall2_get {α β : Type} {R : α → β → Prop} {l : List α} {m : List β} (h : All2 R l m) {i : Nat} {x : α} (hx : l[i]? = some x) : ∃ y, m[i]? = some y ∧ R x y := by
  induction h generalizing i with
  | nil => simp at hx
  | cons h1 h2 ih =>
    cases i with
    | zero => simp at hx; subst hx; exact ⟨_, rfl, h1⟩
    | succ i => simpa using ih (by simpa using hx)
theorem Kin.put {α β : Type} {R : α → β → Prop} {l : List (Int × α)} {m : List (Int × β)} (h : Kin R l m) (k : Int) {x : α} {y : β} (r : R x y) : Kin R (Go.Proofs.YtmehknlijcbphaaDoor.put l k x) (Go.Proofs.YtmehknlijcbphaaDoor.put m k y) := by
  unfold Go.Proofs.YtmehknlijcbphaaDoor.put
  rcases h.ix k with ⟨a, b⟩ | ⟨i, x', y', a, b, _⟩
  · rw [a, b]
    exact forall2_append h (.cons ⟨rfl, r⟩ .nil)
  · rw [a, b]
    exact forall2_set h i ⟨rfl, r⟩
theorem Kin.del {α β : Type} {R : α → β → Prop} {l : List (Int × α)} {m : List (Int × β)} (h : Kin R l m) (k : Int) : Kin R (Go.Proofs.YtmehknlijcbphaaDoor.del l k) (Go.Proofs.YtmehknlijcbphaaDoor.del m k) := by
  unfold Go.Proofs.YtmehknlijcbphaaDoor.del
  rcases h.ix k with ⟨a, b⟩ | ⟨i, x', y', a, b, _⟩
  · rw [a, b]; exact h
  · rw [a, b]; exact forall2_erase h i

/-- The same keys, the values turned. -/
def vals {α β : Type} (f : α → β) (l : List (Int × α)) : List (Int × β) := l.map fun p => (p.1, f p.2)
theorem ix_vals {α β : Type} (f : α → β) (l : List (Int × α)) (k : Int) : ix (vals f l) k = (ix l k).map fun q => (q.1, f q.2) := by
  induction l with
  | nil => rfl
  | cons p r ih =>
    show ix ((p.1, f p.2) :: vals f r) k = _
    unfold ix
    by_cases e : k = p.1
    · simp [e]
    · simp only [if_neg e, ih]
      cases ix r k <;> rfl
theorem get_vals {α β : Type} (f : α → β) (l : List (Int × α)) (k : Int) : get (vals f l) k = (get l k).map f := by
  unfold get
  rw [ix_vals]
  cases ix l k <;> rfl
theorem put_vals {α β : Type} (f : α → β) (l : List (Int × α)) (k : Int) (v : α) : put (vals f l) k (f v) = vals f (put l k v) := by
  unfold put
  rw [ix_vals]
  cases ix l k with
  | none => simp [vals]
  | some q => simp [vals, List.map_set]
theorem length_vals {α β : Type} (f : α → β) (l : List (Int × α)) : (vals f l).length = l.length := by simp [vals]
theorem keys_vals {α β : Type} (f : α → β) (l : List (Int × α)) : (vals f l).map (·.1) = l.map (·.1) := by simp [vals]
theorem get_put {β : Type} (l : List (Int × β)) (k j : Int) (v : β) : get (put l k v) j = if j = k then some v else get l j := by
  induction l with
  | nil =>
    show get [(k, v)] j = _
    unfold get ix
    by_cases e : j = k <;> simp [e, ix]
  | cons p r ih =>
    by_cases e : k = p.1
    · have hp : put (p :: r) k v = (k, v) :: r := by simp [put, ix, e]
      rw [hp]
      unfold get ix
      by_cases e2 : j = k
      · simp [e2]
      · have : ¬ j = p.1 := fun h => e2 (h.trans e.symm)
        simp [e2, this]
    · have hp : put (p :: r) k v = p :: put r k v := by
        unfold put
        rw [ix, if_neg e]
        cases ix r k <;> simp
      rw [hp]
      have g1 : ∀ (q : List (Int × β)), get (p :: q) j = if j = p.1 then some p.2 else get q j := by
        intro q
        unfold get
        rw [ix]
        split
        · rfl
        · cases ix q j <;> rfl
      rw [g1, g1, ih]
      by_cases e2 : j = k
      · simp [e2, e]
      · simp [e2]
theorem get_nil {β : Type} (k : Int) : get ([] : List (Int × β)) k = none := rfl
theorem get_none {β : Type} {l : List (Int × β)} {k : Int} : get l k = none ↔ k ∉ l.map (·.1) := by
  unfold get
  rw [Option.map_eq_none_iff]
  exact ix_none

theorem map_eraseIdx' {α β : Type} (f : α → β) : ∀ (l : List α) (i : Nat), (l.eraseIdx i).map f = (l.map f).eraseIdx i
  | [], _ => by simp
  | _ :: _, 0 => rfl
  | x :: l, i + 1 => by simp [map_eraseIdx' f l i]

theorem findNow_lies (k : Int) : ∀ (es : List MapEntry) (l : List (Int × Value)) (i : Nat), es.map (fun e => (e.key, e.val)) = l.map (fun p => (Value.int .i64 p.1, p.2)) →
    Instr.findNow (.int .i64) (.int .i64 k) es i = some ((ix l k).map fun q => (i + q.1, q.2))
  | [], [], i, _ => rfl
  | [], _ :: _, _, h => by simp at h
  | _ :: _, [], _, h => by simp at h
  | e :: es, p :: l, i, h => by
    simp only [List.map_cons, List.cons.injEq, Prod.mk.injEq] at h
    obtain ⟨⟨h1, h2⟩, h3⟩ := h
    unfold Instr.findNow ix
    rw [h1]
    simp only [Instr.sameNow, if_true]
    by_cases e1 : k = p.1
    · simp [e1, h2]
    · have e2 : (k == p.1) = false := by simpa using e1
      rw [e2]
      simp only [if_neg e1]
      rw [findNow_lies k es l (i + 1) h3]
      cases ix l k with
      | none => rfl
      | some q => simp [Nat.add_comm, Nat.add_left_comm]

section laws
variable {P : Program} {w : World} {b : Nat} {l : List (Int × Value)} {t k e : TypeId}

theorem run_checkKey_int (hk : P.underlying k = some (.int .i64)) (em : Bool) (x : Int) (w : World) : (Instr.checkKey em 10000 k (.int .i64 x)).run P w = .ok () w := by
  unfold Instr.checkKey
  simp [run_underlying hk]

theorem run_findKey_lies (hk : P.underlying k = some (.int .i64)) {es : Array MapEntry} {c : Nat} (h : Lies es c l) (x : Int) (w : World) :
    (Instr.findKey k (.int .i64 x) es.toList).run P w = .ok (ix l x) w := by
  unfold Instr.findKey
  simp only [Sem.run_bind, run_underlying hk, Result.andThen_ok]
  rw [findNow_lies x es.toList l 0 h.kv]
  cases ix l x <;> simp

/-- 'm[x]'. -/
theorem run_lookup_map (ht : P.underlying t = some (.map k e)) (hk : P.underlying k = some (.int .i64)) {z : Value} (hz : (zeroValue e).run P w = .ok z w) (h : MapAt w b l) (x : Int) (ok : Bool) :
    (Instr.lookup t (.map (some b)) (.int .i64 x) ok).run P w = .ok (if ok then .tuple #[(get l x).getD z, .bool (get l x).isSome] else (get l x).getD z) w := by
  obtain ⟨es, c, hb, hl⟩ := h
  unfold Instr.lookup
  simp only [Sem.run_bind, run_underlying ht, Result.andThen_ok]
  have hg : (getObj b).run P w = .ok (.map es c) w := by simp [getObj, Sem.run, hb]
  simp only [hg, Result.andThen_ok, Sem.run_bind, Sem.run_pure, run_checkKey_int hk, run_findKey_lies hk hl]
  cases hx : ix l x with
  | none => cases ok <;> simp [get, hx, hz]
  | some q => cases ok <;> simp [get, hx]

/-- 'm[x] = v': the new world. -/
theorem run_update_map (ht : P.underlying t = some (.map k e)) (hk : P.underlying k = some (.int .i64)) (h : MapAt w b l) (x : Int) (v : Value) :
    ∃ w', (Instr.mapUpdate t (.map (some b)) (.int .i64 x) v).run P w = .ok () w' ∧ MapAt w' b (put l x v) ∧ Turn (· = b) w w' ∧ w'.heap.size = w.heap.size := by
  obtain ⟨es, c, hb, hl⟩ := h
  have hlt := heap_lt hb
  unfold Instr.mapUpdate
  simp only [Sem.run_bind, run_underlying ht, Result.andThen_ok]
  have hg : (getObj b).run P w = .ok (.map es c) w := by simp [getObj, Sem.run, hb]
  simp only [hg, Result.andThen_ok, Sem.run_bind, run_checkKey_int hk, run_findKey_lies hk hl]
  have hset : ∀ o : Obj, (setObj b o).run P w = .ok () { w with heap := w.heap.setIfInBounds b o } := by intro o; simp [setObj, Sem.run, hb]
  have hturn : ∀ o : Obj, Turn (· = b) w { w with heap := w.heap.setIfInBounds b o } := fun o =>
    ⟨rfl, rfl, rfl, by simp, fun i hi hn => by
      show (w.heap.setIfInBounds b o)[i]? = _
      rw [Array.getElem?_setIfInBounds_ne (fun e => hn e.symm)]⟩
  cases hx : ix l x with
  | none =>
    simp only [hset]
    refine ⟨_, rfl, ⟨es.push { key := .int .i64 x, val := v, born := c }, c + 1, by simp [hlt], ?_⟩, hturn _, by simp⟩
    have hp : put l x v = l ++ [(x, v)] := by simp [put, hx]
    rw [hp]
    refine ⟨by simp [hl.kv], ?_, ?_, ?_⟩
    · simp only [Array.toList_push, List.map_append, List.map_cons, List.map_nil]
      refine List.pairwise_append.2 ⟨hl.rise, by simp, ?_⟩
      intro a ha y hy
      simp at hy
      subst hy
      obtain ⟨en, hen, rfl⟩ := List.mem_map.1 ha
      exact hl.born en hen
    · intro en hen
      simp at hen
      rcases hen with hen | rfl
      · have := hl.born en (by simpa using hen); omega
      · simp
    · have := ix_none.1 hx
      rw [List.map_append, List.nodup_append]
      refine ⟨hl.nodup, by simp, ?_⟩
      intro a ha y hy
      simp at hy
      subst hy
      exact fun e => this (e ▸ ha)
  | some q =>
    obtain ⟨i, u⟩ := q
    have hi := ix_get hx
    have hil : i < l.length := (List.getElem?_eq_some_iff.1 hi).1
    have hsz := hl.length
    have hkey : es.toList[i]? = some es[i] := by simp
    have hkv : (es[i].key, es[i].val) = (Value.int .i64 x, u) := by
      have h1 := congrArg (·[i]?) hl.kv
      simp only [List.getElem?_map, hi, Option.map_some] at h1
      rw [hkey] at h1
      simpa using h1
    have hk1 : es[i].key = .int .i64 x := (Prod.mk.injEq .. ▸ hkv).1
    have hke : ((es[i]?).map (·.key)).getD (.int .i64 x) = .int .i64 x := by
      rw [Array.getElem?_eq_getElem (by omega)]
      exact hk1
    have hstay : (Instr.keyThatStays (.int .i64 x) (.int .i64 x)).run P w = .ok (.int .i64 x) w := by
      unfold Instr.keyThatStays
      rw [if_pos (by simp [Instr.sameBits])]
      rfl
    simp only [Sem.run_bind]
    rw [hke, hstay]
    simp only [Result.andThen_ok, hset]
    refine ⟨_, rfl, ⟨es.modify i fun e => { e with key := .int .i64 x, val := v }, c, by simp [hlt], ?_⟩, hturn _, by simp⟩
    have hp : put l x v = l.set i (x, v) := by simp [put, hx]
    have hmod : (es.modify i fun e => { e with key := .int .i64 x, val := v }).toList = es.toList.modify i fun e => { e with key := .int .i64 x, val := v } := by simp
    rw [hp]
    refine ⟨?_, ?_, ?_, ?_⟩
    · rw [hmod]
      apply List.ext_getElem?
      intro j
      have h1 := congrArg (·[j]?) hl.kv
      simp only [List.getElem?_map] at h1
      simp only [List.getElem?_map, List.getElem?_modify, List.getElem?_set]
      by_cases e1 : i = j
      · subst e1
        simp [hil, hkey]
      · simp only [if_neg e1]
        rw [← h1]
        cases es.toList[j]? <;> rfl
    · rw [hmod]
      have : (es.toList.modify i fun e => { e with key := .int .i64 x, val := v }).map (·.born) = es.toList.map (·.born) := by
        apply List.ext_getElem?
        intro j
        simp only [List.getElem?_map, List.getElem?_modify]
        cases es.toList[j]? with
        | none => rfl
        | some en => by_cases e1 : i = j <;> simp [e1]
      rw [this]
      exact hl.rise
    · rw [hmod]
      intro en hen
      obtain ⟨j, hj⟩ := List.getElem?_of_mem hen
      rw [List.getElem?_modify] at hj
      obtain ⟨e0, he0, rfl⟩ := Option.map_eq_some_iff.1 hj
      have := hl.born e0 (List.mem_of_getElem? he0)
      by_cases e1 : i = j <;> simp [e1, this]
    · have : (l.set i (x, v)).map (·.1) = l.map (·.1) := by
        apply List.ext_getElem?
        intro j
        simp only [List.getElem?_map, List.getElem?_set]
        by_cases e1 : i = j
        · subst e1
          simp [hil]
          have := (List.getElem?_eq_some_iff.1 hi).2
          rw [this]
        · simp [e1]
      rw [this]
      exact hl.nodup

/-- 'delete(m, x)'. -/
theorem run_delete_map (ht : P.underlying t = some (.map k e)) (hk : P.underlying k = some (.int .i64)) (h : MapAt w b l) (x : Int) (ty : TypeId) (u : TypeId) :
    ∃ w', (Builtin.delete_ #[t, u] ty #[.map (some b), .int .i64 x]).run P w = .ok (.tuple #[]) w' ∧ MapAt w' b (del l x) ∧ Turn (· = b) w w' ∧ w'.heap.size = w.heap.size := by
  obtain ⟨es, c, hb, hl⟩ := h
  have hlt := heap_lt hb
  unfold Builtin.delete_
  have hg : (getObj b).run P w = .ok (.map es c) w := by simp [getObj, Sem.run, hb]
  have hset : ∀ o : Obj, (setObj b o).run P w = .ok () { w with heap := w.heap.setIfInBounds b o } := by intro o; simp [setObj, Sem.run, hb]
  have hturn : ∀ o : Obj, Turn (· = b) w { w with heap := w.heap.setIfInBounds b o } := fun o =>
    ⟨rfl, rfl, rfl, by simp, fun i hi hn => by
      show (w.heap.setIfInBounds b o)[i]? = _
      rw [Array.getElem?_setIfInBounds_ne (fun e => hn e.symm)]⟩
  cases hx : ix l x with
  | none =>
    refine ⟨_, by simp [run_underlying ht, hg, run_checkKey_int hk, run_findKey_lies hk hl, hx, hset]; rfl, ⟨es, c, by simp [hlt], ?_⟩, hturn _, by simp⟩
    simpa [del, hx] using hl
  | some q =>
    obtain ⟨i, y⟩ := q
    refine ⟨_, by simp [run_underlying ht, hg, run_checkKey_int hk, run_findKey_lies hk hl, hx, hset]; rfl, ⟨es.eraseIdxIfInBounds i, c, by simp [hlt], ?_⟩, hturn _, by simp⟩
    have hi := ix_get hx
    have hil : i < l.length := (List.getElem?_eq_some_iff.1 hi).1
    have hsz := hl.length
    have hp : del l x = l.eraseIdx i := by simp [del, hx]
    have hmod : (es.eraseIdxIfInBounds i).toList = es.toList.eraseIdx i := by
      unfold Array.eraseIdxIfInBounds
      rw [dif_pos (by omega)]
      simp
    rw [hp]
    refine ⟨?_, ?_, ?_, ?_⟩
    · rw [hmod, map_eraseIdx', hl.kv, map_eraseIdx']
    · rw [hmod, map_eraseIdx']
      exact hl.rise.sublist (List.eraseIdx_sublist _ _)
    · rw [hmod]
      intro en hen
      exact hl.born en ((List.eraseIdx_sublist _ _).subset hen)
    · rw [map_eraseIdx']
      exact hl.nodup.sublist (List.eraseIdx_sublist _ _)

/-- 'len(m)'. -/
theorem run_len_map (ht : P.underlying t = some (.map k e)) (h : MapAt w b l) (ty : TypeId) :
    (Builtin.len_ #[t] ty #[.map (some b)]).run P w = .ok (.int .i64 l.length) w := by
  obtain ⟨es, c, hb, hl⟩ := h
  have hg : (getObj b).run P w = .ok (.map es c) w := by simp [getObj, Sem.run, hb]
  unfold Builtin.len_
  simp [run_underlying ht, hg, goInt, hl.length]

/-! ### a range over such a map -/
/-- Block r is an iterator over the map of block b, whose entries are l; todo: those that are still to come. -/
def IterAt (w : World) (r b : Nat) (l todo : List (Int × Value)) : Prop :=
  ∃ es clock since seen last, w.heap[b]? = some (.map es clock) ∧ Lies es clock l ∧ w.heap[r]? = some (.mapIter (some b) since seen last) ∧ (∀ e ∈ es.toList, e.born < since) ∧ since ≤ last ∧ since ≤ clock ∧
    (es.toList.filter fun e => !seen.contains e.born).map (fun e => (e.key, e.val)) = todo.map fun p => (Value.int .i64 p.1, p.2)

theorem IterAt.map {r : Nat} {todo : List (Int × Value)} (h : IterAt w r b l todo) : MapAt w b l := by
  obtain ⟨es, c, _, _, _, hb, hl, _⟩ := h
  exact ⟨es, c, hb, hl⟩
theorem IterAt.same {w' : World} {r : Nat} {todo : List (Int × Value)} (h : IterAt w r b l todo) (e1 : w'.heap[b]? = w.heap[b]?) (e2 : w'.heap[r]? = w.heap[r]?) : IterAt w' r b l todo := by
  obtain ⟨es, c, si, se, la, hb, hl, hr, h1⟩ := h
  exact ⟨es, c, si, se, la, e1.trans hb, hl, e2.trans hr, h1⟩
theorem IterAt.lt {r : Nat} {todo : List (Int × Value)} (h : IterAt w r b l todo) : r < w.heap.size := by
  obtain ⟨es, c, si, se, la, hb, hl, hr, h1⟩ := h
  exact heap_lt hr
theorem IterAt.turn {S : Nat → Prop} {w' : World} {r : Nat} {todo : List (Int × Value)} (h : IterAt w r b l todo) (ht : Turn S w w') (h1 : ¬ S b) (h2 : ¬ S r) : IterAt w' r b l todo :=
  h.same (ht.block b h.map.lt h1) (ht.block r h.lt h2)
theorem IterAt.below {w' : World} {B r : Nat} {todo : List (Int × Value)} (h : IterAt w r b l todo) (hb : Below B w w') (h1 : b < B) (h2 : r < B) : IterAt w' r b l todo :=
  h.same (hb.block b h1) (hb.block r h2)
theorem IterAt.alloc {r : Nat} {todo : List (Int × Value)} (h : IterAt w r b l todo) (o : Obj) : IterAt (w.alloc o) r b l todo :=
  h.same (Below.heap_alloc _ _ _ h.map.lt) (Below.heap_alloc _ _ _ h.lt)
theorem IterAt.setCell {r : Nat} {todo : List (Int × Value)} (h : IterAt w r b l todo) {a : Addr} (h1 : b ≠ a.block) (h2 : r ≠ a.block) (v : Value) : IterAt (w.setCell a v) r b l todo :=
  h.same (Below.heap_setCell _ _ _ _ h1) (Below.heap_setCell _ _ _ _ h2)

/-- 'range m'. -/
theorem run_range_map (ht : P.underlying t = some (.map k e)) (h : MapAt w b l) :
    ∃ w', (Instr.range t (.map (some b))).run P w = .ok (.pointer (some ⟨w.heap.size, 0, none⟩)) w' ∧ IterAt w' w.heap.size b l l ∧ Below w.heap.size w w' ∧ w'.heap.size = w.heap.size + 1 := by
  obtain ⟨es, c, hb, hl⟩ := h
  have hlt := heap_lt hb
  have hg : (getObj b).run P w = .ok (.map es c) w := by simp [getObj, Sem.run, hb]
  refine ⟨w.alloc (.mapIter (some b) c #[] c), ?_, ⟨es, c, c, #[], c, ?_, hl, heap_alloc_new w _, hl.born, Nat.le_refl _, Nat.le_refl _, ?_⟩, (Below.refl _ _).alloc (Nat.le_refl _) _, by simp⟩
  · unfold Instr.range
    simp [run_underlying ht, hg]
  · rw [Below.heap_alloc _ _ _ hlt]
    exact hb
  · have : (es.toList.filter fun e => !(#[] : Array Nat).contains e.born) = es.toList := List.filter_eq_self.2 (fun _ _ => by simp)
    rw [this]
    exact hl.kv

theorem nodup_filter_ne (i : Nat) : ∀ (es : List MapEntry) (e0 : MapEntry), (es.map (·.born)).Pairwise (· < ·) → es[i]? = some e0 → es.filter (fun e => decide (e.born ≠ e0.born)) = es.eraseIdx i := by
  induction i with
  | zero =>
    intro es e0 hp h
    cases es with
    | nil => simp at h
    | cons a r =>
      simp at h
      subst h
      simp only [List.map_cons, List.pairwise_cons] at hp
      rw [List.filter_cons_of_neg (by simp)]
      refine List.filter_eq_self.2 fun x hx => ?_
      have := hp.1 _ (List.mem_map_of_mem hx)
      simp; omega
  | succ i ih =>
    intro es e0 hp h
    cases es with
    | nil => simp at h
    | cons a r =>
      simp at h
      simp only [List.map_cons, List.pairwise_cons] at hp
      have hm := List.mem_map_of_mem (f := (·.born)) (List.mem_of_getElem? h)
      have := hp.1 _ hm
      rw [List.filter_cons_of_pos (by simp; omega)]
      rw [ih r e0 hp.2 h]
      rfl

theorem find_born (es : List MapEntry) (e0 : MapEntry) (hp : (es.map (·.born)).Pairwise (· < ·)) (hm : e0 ∈ es) : es.find? (fun e => e.born == e0.born) = some e0 := by
  induction es with
  | nil => simp at hm
  | cons a r ih =>
    simp only [List.map_cons, List.pairwise_cons] at hp
    rcases List.mem_cons.1 hm with rfl | hm
    · simp
    · have := hp.1 _ (List.mem_map_of_mem (f := (·.born)) hm)
      rw [List.find?_cons_of_neg (by simp; omega)]
      exact ih hp.2 hm

/-- The step. -/
theorem run_next_map {r : Nat} {todo : List (Int × Value)} (h : IterAt w r b l todo) (ty : TypeId) :
    (todo = [] ∧ (Instr.next (.pointer (some ⟨r, 0, none⟩)) false ty).run P w = .ok (.tuple #[.bool false]) w) ∨
    ∃ (i : Nat) (x : Int) (v : Value) (w' : World), todo[i]? = some (x, v) ∧ (Instr.next (.pointer (some ⟨r, 0, none⟩)) false ty).run P w = .ok (.tuple #[.bool true, .int .i64 x, v]) w' ∧
      IterAt w' r b l (todo.eraseIdx i) ∧ Turn (· = r) w w' ∧ w'.heap.size = w.heap.size ∧ (Instr.entry (.pointer (some ⟨r, 0, none⟩))).run P w' = .ok (.tuple #[.int .i64 x, v]) w' := by
  obtain ⟨es, c, si, se, la, hb, hl, hr, hsi, hla, hcl, htodo⟩ := h
  have hne : b ≠ r := by intro e; subst e; rw [hb] at hr; simp at hr
  have hltr := heap_lt hr
  have hltb := heap_lt hb
  have hg : (getObj b).run P w = .ok (.map es c) w := by simp [getObj, Sem.run, hb]
  have hgr : (getObj r).run P w = .ok (.mapIter (some b) si se la) w := by simp [getObj, Sem.run, hr]
  have hold : ((es.filter fun e => !se.contains e.born).filter fun e => decide (e.born < si)) = es.filter fun e => !se.contains e.born := by
    rw [Array.filter_eq_self]
    intro e he
    have : e ∈ es := (Array.mem_filter.1 he).1
    simp [hsi e (by simpa using this)]
  have hnew : ((es.filter fun e => !se.contains e.born).filter fun e => decide (e.born ≥ si)) = #[] := by
    rw [Array.filter_eq_empty_iff]
    intro e he
    have : e ∈ es := (Array.mem_filter.1 he).1
    have := hsi e (by simpa using this)
    simp; omega
  have hcond : (!se.isEmpty && !es.isEmpty && es.all fun e => decide (e.born ≥ la)) = false := by
    cases hes : es.isEmpty with
    | true => simp
    | false =>
      have hn : es.all (fun e => decide (e.born ≥ la)) = false := by
        rw [Bool.eq_false_iff]
        intro hall
        rw [Array.all_eq_true'] at hall
        have h0 : 0 < es.size := by
          rcases Nat.eq_zero_or_pos es.size with h | h
          · have : es = #[] := Array.eq_empty_of_size_eq_zero h
            simp [this] at hes
          · exact h
        have hm : es[0] ∈ es := Array.getElem_mem h0
        have := hall _ hm
        have h2 := hsi es[0] (by simp)
        simp at this
        omega
      simp [hn]
  have hfl : (es.filter fun e => !se.contains e.born).toList = es.toList.filter fun e => !se.contains e.born := by simp
  have hlen : (es.filter fun e => !se.contains e.born).size = todo.length := by
    have h1 := congrArg List.length htodo
    rw [List.length_map, List.length_map, ← hfl, Array.length_toList] at h1
    exact h1
  unfold Instr.next
  simp only [Sem.run_bind, hgr, Result.andThen_ok, hg, hcond, Bool.false_eq_true, if_false, hold, hnew, Array.append_empty]
  generalize hleft : (es.filter fun e => !se.contains e.born) = left at *
  by_cases htd : todo = []
  · left
    have he : left = #[] := Array.eq_empty_of_size_eq_zero (by rw [hlen, htd]; rfl)
    refine ⟨htd, ?_⟩
    subst he
    simp [choose, Sem.run, Question.forced]
  · right
    have hpos : 0 < left.size := by rw [hlen]; exact List.length_pos_iff.2 htd
    have he : left.isEmpty = false := by
      rw [Bool.eq_false_iff]
      intro h
      simp only [Array.isEmpty_iff_size_eq_zero] at h
      omega
    simp only [he, Bool.false_eq_true, if_false, Array.empty_append]
    -- whichever is chosen
    obtain ⟨j, w1, hj, hch, hw1⟩ : ∃ j w1, j < left.size ∧ (choose (.mapNext (left.map some).size)).run P w = .ok j w1 ∧ (w1.heap = w.heap ∧ w1.os = w.os ∧ w1.tape = w.tape ∧ w1.output = w.output) := by
      rw [run_choose]
      split
      · exact ⟨0, w, hpos, rfl, rfl, rfl, rfl, rfl⟩
      · exact ⟨_, _, by simp only [Question.cut, Array.size_map]; exact Nat.mod_lt _ hpos, rfl, rfl, rfl, rfl, rfl⟩
    have hgj : (left.map some)[j]? = some (some left[j]) := by simp [hj]
    have hleftj : (es.toList.filter fun e => !se.contains e.born)[j]? = some left[j] := by rw [← hfl]; simp [hj]
    have htj : j < todo.length := by omega
    obtain ⟨x, v, hxv, hk1, hv1⟩ : ∃ x v, todo[j]? = some (x, v) ∧ left[j].key = .int .i64 x ∧ left[j].val = v := by
      have h1 := congrArg (·[j]?) htodo
      simp only [List.getElem?_map, hleftj, List.getElem?_eq_getElem htj, Option.map_some, Option.some.injEq, Prod.mk.injEq] at h1
      exact ⟨todo[j].1, todo[j].2, by rw [List.getElem?_eq_getElem htj], h1.1, h1.2⟩
    have hset : ∀ o : Obj, (setObj r o).run P w1 = .ok () { w1 with heap := w1.heap.setIfInBounds r o } := by intro o; simp [setObj, Sem.run, hw1.1, hr]
    have hmem : left[j] ∈ es.toList := (List.mem_filter.1 (List.mem_of_getElem? hleftj)).1
    have hbb : ({ w1 with heap := w1.heap.setIfInBounds r (Obj.mapIter (some b) si (se.push left[j].born) c) } : World).heap[b]? = some (.map es c) := by
      show (w1.heap.setIfInBounds r _)[b]? = _
      rw [Array.getElem?_setIfInBounds_ne (fun e => hne e.symm), hw1.1]
      exact hb
    have hrr : ({ w1 with heap := w1.heap.setIfInBounds r (Obj.mapIter (some b) si (se.push left[j].born) c) } : World).heap[r]? = some (Obj.mapIter (some b) si (se.push left[j].born) c) := by
      show (w1.heap.setIfInBounds r _)[r]? = _
      simp [hw1.1, hltr]
    refine ⟨j, x, v, { w1 with heap := w1.heap.setIfInBounds r (Obj.mapIter (some b) si (se.push left[j].born) c) }, ?_, ?_, ?_, ?_, ?_, ?_⟩
    · exact hxv
    · rw [hch]
      simp only [Result.andThen_ok, hgj, Sem.run_bind, hset]
      rw [hk1, hv1]
      rfl
    · refine ⟨es, c, si, se.push left[j].born, c, hbb, hl, hrr, hsi, hcl, hcl, ?_⟩
      have h1 : (es.toList.filter fun e => !(se.push left[j].born).contains e.born) = (es.toList.filter fun e => !se.contains e.born).filter fun e => decide (e.born ≠ left[j].born) := by
        rw [List.filter_filter]
        refine List.filter_congr fun e _ => ?_
        by_cases e1 : e.born = left[j].born <;> by_cases e2 : e.born ∈ se <;> simp [e1, e2]
      rw [h1, nodup_filter_ne j _ _ (List.Pairwise.sublist (List.Sublist.map _ (List.filter_sublist)) hl.rise) hleftj, map_eraseIdx', htodo, map_eraseIdx']
    · exact ⟨hw1.2.1, hw1.2.2.1, hw1.2.2.2, by simp [hw1.1], fun i hi hn => by
        show (w1.heap.setIfInBounds r _)[i]? = _
        rw [Array.getElem?_setIfInBounds_ne (fun e => hn e.symm), hw1.1]⟩
    · simp [hw1.1]
    · unfold Instr.entry
      have hg1 : (getObj r).run P { w1 with heap := w1.heap.setIfInBounds r (Obj.mapIter (some b) si (se.push left[j].born) c) } = .ok (Obj.mapIter (some b) si (se.push left[j].born) c) { w1 with heap := w1.heap.setIfInBounds r (Obj.mapIter (some b) si (se.push left[j].born) c) } := by
        simp only [getObj, Sem.run, hrr]
      have hg2 : (getObj b).run P { w1 with heap := w1.heap.setIfInBounds r (Obj.mapIter (some b) si (se.push left[j].born) c) } = .ok (.map es c) { w1 with heap := w1.heap.setIfInBounds r (Obj.mapIter (some b) si (se.push left[j].born) c) } := by
        simp only [getObj, Sem.run, hbb]
      have hf : es.find? (fun e => e.born == left[j].born) = some left[j] := by
        rw [← Array.find?_toList]
        exact find_born _ _ hl.rise hmem
      simp only [Sem.run_bind, hg1, Result.andThen_ok, Array.back?_push, hg2]
      simp [hf, hk1, hv1]

/-- 'delete' of a key that has come already. -/
theorem run_delete_iter (ht : P.underlying t = some (.map k e)) (hk : P.underlying k = some (.int .i64)) {r : Nat} {todo : List (Int × Value)} (h : IterAt w r b l todo) (x : Int) (hx : x ∉ todo.map (·.1)) (ty : TypeId) (u : TypeId) :
    ∃ w', (Builtin.delete_ #[t, u] ty #[.map (some b), .int .i64 x]).run P w = .ok (.tuple #[]) w' ∧ IterAt w' r b (del l x) todo ∧ Turn (· = b) w w' ∧ w'.heap.size = w.heap.size := by
  have hm := h.map
  obtain ⟨es, c, si, se, la, hb, hl, hr, hsi, hla, hcl, htodo⟩ := h
  have hne : b ≠ r := by intro e; subst e; rw [hb] at hr; simp at hr
  have hlt := heap_lt hb
  have hg : (getObj b).run P w = .ok (.map es c) w := by simp [getObj, Sem.run, hb]
  have hset : ∀ o : Obj, (setObj b o).run P w = .ok () { w with heap := w.heap.setIfInBounds b o } := by intro o; simp [setObj, Sem.run, hb]
  obtain ⟨w', hrun, hm', hturn, hsz⟩ := run_delete_map ht hk hm x ty u
  refine ⟨w', hrun, ?_, hturn, hsz⟩
  have hr' : w'.heap[r]? = some (.mapIter (some b) si se la) := (hturn.block r (heap_lt hr) (fun e => hne e.symm)).trans hr
  unfold Builtin.delete_ at hrun
  cases hix : ix l x with
  | none =>
    have hd : del l x = l := by simp [del, hix]
    rw [hd]
    simp [run_underlying ht, hg, run_checkKey_int hk, run_findKey_lies hk hl, hix, hset] at hrun
    subst hrun
    exact ⟨es, c, si, se, la, by simp [hlt], hl, hr', hsi, hla, hcl, htodo⟩
  | some q =>
    obtain ⟨i, y⟩ := q
    simp [run_underlying ht, hg, run_checkKey_int hk, run_findKey_lies hk hl, hix, hset] at hrun
    have hmod : (es.eraseIdxIfInBounds i).toList = es.toList.eraseIdx i := by
      have hi := ix_get hix
      have hil : i < l.length := (List.getElem?_eq_some_iff.1 hi).1
      have hsz := hl.length
      unfold Array.eraseIdxIfInBounds
      rw [dif_pos (by omega)]
      simp
    subst hrun
    obtain ⟨es', c', hb', hl'⟩ := hm'
    have hbb : ({ w with heap := w.heap.setIfInBounds b (Obj.map (es.eraseIdxIfInBounds i) c) } : World).heap[b]? = some (Obj.map (es.eraseIdxIfInBounds i) c) := by simp [hlt]
    rw [hbb] at hb'
    simp only [Option.some.injEq, Obj.map.injEq] at hb'
    obtain ⟨rfl, rfl⟩ := hb'
    refine ⟨_, _, si, se, la, hbb, hl', hr', ?_, hla, hcl, ?_⟩
    · rw [hmod]
      intro en hen
      exact hsi en ((List.eraseIdx_sublist _ _).subset hen)
    · rw [hmod, ← htodo]
      have hi := ix_get hix
      have hil : i < l.length := (List.getElem?_eq_some_iff.1 hi).1
      have hsz := hl.length
      have hkey : es.toList[i]? = some es[i] := by simp
      have hk1 : es[i].key = Value.int .i64 x := by
        have h1 := congrArg (·[i]?) hl.kv
        simp only [List.getElem?_map, hi, Option.map_some] at h1
        rw [hkey] at h1
        have h2 : (es[i].key, es[i].val) = (Value.int .i64 x, y) := by simpa using h1
        exact (Prod.mk.injEq .. ▸ h2).1
      rw [← nodup_filter_ne i _ _ hl.rise hkey, List.filter_filter]
      congr 1
      refine List.filter_congr fun en hen => ?_
      by_cases e1 : en.born = es[i].born
      · have he : en = es[i] := by
          have f1 := find_born _ en hl.rise hen
          have f2 := find_born _ es[i] hl.rise (List.mem_of_getElem? hkey)
          rw [e1] at f1
          rw [f1] at f2
          exact Option.some.inj f2
        have hns : en.born ∈ se := by
          refine Classical.byContradiction fun hns => ?_
          have hin : en ∈ es.toList.filter fun e => !se.contains e.born := List.mem_filter.2 ⟨hen, by simpa using hns⟩
          have h3 := List.mem_map_of_mem (f := fun e => (e.key, e.val)) hin
          rw [htodo] at h3
          obtain ⟨p, hp, e3⟩ := List.mem_map.1 h3
          simp only [Prod.mk.injEq] at e3
          rw [he, hk1] at e3
          have : p.1 = x := by simpa using e3.1
          exact hx (this ▸ List.mem_map_of_mem hp)
        simp [hns]
      · simp [e1]
end laws

/-! ### the same at the operations, for the walk -/
section arms
variable {P : Program} (w : World) {ops : Array Oper} {rest : List Oper} {o : Oper} {a : Act} {Q : Exit → Act → World → Prop}

/-- An operation whose run is known. -/
theorem wpList_run (hg : o.guard = none) {v : Value} {w' : World} (hrun : (execOp a.eval o).run P w = .ok (.value v) w') (hK : wpList P ops Q rest (a.put o.dst v) w') : wpList P ops Q (o :: rest) a w := by
  refine wpList_plain hg fun K' hK' => ?_
  unfold Oper.wp
  rw [hrun]
  exact hK' _ _ hK

theorem wpList_update_map (hg : o.guard = none) (m x v : Operand) (t k e : TypeId) (hop : o.op = Op.mapUpdate t m x v) (ht : P.underlying t = some (.map k e)) (hk : P.underlying k = some (.int .i64)) (b : Nat) (l : List (Int × Value))
    (hm : a.eval m = .map (some b)) (key : Int) (hx : a.eval x = .int .i64 key) (val : Value) (hv : a.eval v = val) (h : MapAt w b l)
    (hK : ∀ w', MapAt w' b (put l key val) → Turn (· = b) w w' → w'.heap.size = w.heap.size → wpList P ops Q rest (a.put o.dst undef) w') : wpList P ops Q (o :: rest) a w := by
  refine wpList_plain hg fun K' hK' => ?_
  obtain ⟨w', hrun, r1, r2, r3⟩ := run_update_map ht hk h key val
  unfold Oper.wp
  simp [execOp, hop, hm, hx, hv, hrun, Result.andThen]
  exact hK' _ _ (hK w' r1 r2 r3)

theorem wpList_delete_map (hg : o.guard = none) (m x : Operand) (t k e : TypeId) (hop : o.op = Op.call { callee := Callee.builtin Builtin.delete, args := #[m, x], argTypes := #[t, k] }) (ht : P.underlying t = some (.map k e)) (hk : P.underlying k = some (.int .i64))
    (b : Nat) (l : List (Int × Value)) (hm : a.eval m = .map (some b)) (key : Int) (hx : a.eval x = .int .i64 key) (h : MapAt w b l)
    (hK : ∀ w', MapAt w' b (del l key) → Turn (· = b) w w' → w'.heap.size = w.heap.size → wpList P ops Q rest (a.put o.dst (.tuple #[])) w') : wpList P ops Q (o :: rest) a w := by
  refine wpList_plain hg fun K' hK' => ?_
  obtain ⟨w', hrun, r1, r2, r3⟩ := run_delete_map ht hk h key o.type k
  unfold Oper.wp
  simp [execOp, hop, resolve, invoke, builtin, hm, hx, hrun, Result.andThen]
  exact hK' _ _ (hK w' r1 r2 r3)

theorem wpList_delete_iter (hg : o.guard = none) (m x : Operand) (t k e : TypeId) (hop : o.op = Op.call { callee := Callee.builtin Builtin.delete, args := #[m, x], argTypes := #[t, k] }) (ht : P.underlying t = some (.map k e)) (hk : P.underlying k = some (.int .i64))
    (r b : Nat) (l todo : List (Int × Value)) (hm : a.eval m = .map (some b)) (key : Int) (hx : a.eval x = .int .i64 key) (h : IterAt w r b l todo) (hn : key ∉ todo.map (·.1))
    (hK : ∀ w', IterAt w' r b (del l key) todo → Turn (· = b) w w' → w'.heap.size = w.heap.size → wpList P ops Q rest (a.put o.dst (.tuple #[])) w') : wpList P ops Q (o :: rest) a w := by
  refine wpList_plain hg fun K' hK' => ?_
  obtain ⟨w', hrun, r1, r2, r3⟩ := run_delete_iter ht hk h key hn o.type k
  unfold Oper.wp
  simp [execOp, hop, resolve, invoke, builtin, hm, hx, hrun, Result.andThen]
  exact hK' _ _ (hK w' r1 r2 r3)

theorem wpList_range_map (hg : o.guard = none) (m : Operand) (t k e : TypeId) (hop : o.op = Op.range t m) (ht : P.underlying t = some (.map k e)) (b : Nat) (l : List (Int × Value)) (hm : a.eval m = .map (some b)) (h : MapAt w b l)
    (hK : ∀ w', IterAt w' w.heap.size b l l → Below w.heap.size w w' → w'.heap.size = w.heap.size + 1 → wpList P ops Q rest (a.put o.dst (.pointer (some ⟨w.heap.size, 0, none⟩))) w') : wpList P ops Q (o :: rest) a w := by
  refine wpList_plain hg fun K' hK' => ?_
  obtain ⟨w', hrun, r1, r2, r3⟩ := run_range_map ht h
  unfold Oper.wp
  simp [execOp, hop, hm, hrun, Result.andThen]
  exact hK' _ _ (hK w' r1 r2 r3)

theorem wpList_next_map (hg : o.guard = none) (it : Operand) (hop : o.op = Op.next it false) (r b : Nat) (l todo : List (Int × Value)) (hit : a.eval it = .pointer (some ⟨r, 0, none⟩)) (h : IterAt w r b l todo)
    (hDone : todo = [] → wpList P ops Q rest (a.put o.dst (.tuple #[.bool false])) w)
    (hMore : ∀ (i : Nat) (x : Int) (v : Value) (w' : World), todo[i]? = some (x, v) → IterAt w' r b l (todo.eraseIdx i) → Turn (· = r) w w' → w'.heap.size = w.heap.size →
      (Instr.entry (.pointer (some ⟨r, 0, none⟩))).run P w' = .ok (.tuple #[.int .i64 x, v]) w' → wpList P ops Q rest (a.put o.dst (.tuple #[.bool true, .int .i64 x, v])) w') : wpList P ops Q (o :: rest) a w := by
  refine wpList_plain hg fun K' hK' => ?_
  unfold Oper.wp
  rcases run_next_map (P := P) h o.type with ⟨h0, hrun⟩ | ⟨i, x, v, w', h1, hrun, r1, r2, r3, r4⟩
  · simp [execOp, hop, hit, hrun, Result.andThen]
    exact hK' _ _ (hDone h0)
  · simp [execOp, hop, hit, hrun, Result.andThen]
    exact hK' _ _ (hMore i x v w' h1 r1 r2 r3 r4)
end arms

/-! ### slices of ints -/
/-- v is a slice of the ints xs, in blocks that meet ok. -/
def Ints (ok : Nat → Prop) (w : World) (v : Value) (xs : List Int) : Prop :=
  ∃ (A : Option Addr) (cap : Nat), v = .slice A xs.length cap ∧ xs.length ≤ cap ∧ cap ≤ maxLen ∧ (A = none → cap = 0) ∧
    (0 < xs.length → ∃ ad, A = some ad ∧ ok ad.block ∧ ad.block < w.heap.size ∧ ∀ i x, xs[i]? = some x → w.cell? (ad.add i) = some (.int .i64 x)) ∧
    xs.length * 8 ≤ 140737488355328 ∧ ∀ x ∈ xs, (Lit.int .i64 x).wf = true

theorem Ints.keep {ok : Nat → Prop} {w w' : World} {v : Value} {xs : List Int} (h : Ints ok w v xs) (hs : w.heap.size ≤ w'.heap.size) (hb : ∀ b, ok b → b < w.heap.size → w'.heap[b]? = w.heap[b]?) : Ints ok w' v xs := by
  obtain ⟨A, cap, rfl, h1, h2, h3, h4, h5⟩ := h
  refine ⟨A, cap, rfl, h1, h2, h3, fun h0 => ?_, h5⟩
  obtain ⟨ad, rfl, ho, hl, hc⟩ := h4 h0
  refine ⟨ad, rfl, ho, Nat.lt_of_lt_of_le hl hs, fun i x hx => ?_⟩
  have hblk : (ad.add i).block = ad.block := by unfold Addr.add; split <;> rfl
  rw [World.cell?_of_block (w := w) (by rw [hblk]; exact hb _ ho hl)]
  exact hc i x hx
theorem Ints.below {ok : Nat → Prop} {B : Nat} {w w' : World} {v : Value} {xs : List Int} (h : Ints ok w v xs) (hb : Below B w w') (ho : ∀ b, ok b → b < w.heap.size → b < B) : Ints ok w' v xs :=
  h.keep hb.size fun b hk hl => hb.block b (ho b hk hl)
theorem Ints.fresh {ok : Nat → Prop} {w w' : World} {v : Value} {xs : List Int} (h : Ints ok w v xs) (hb : Below w.heap.size w w') : Ints ok w' v xs :=
  h.keep hb.size fun b _ hl => hb.block b hl
theorem Ints.turn {ok S : Nat → Prop} {w w' : World} {v : Value} {xs : List Int} (h : Ints ok w v xs) (ht : Turn S w w') (ho : ∀ b, ok b → ¬ S b) : Ints ok w' v xs :=
  h.keep ht.size fun b hk hl => ht.block b hl (ho b hk)
theorem Ints.alloc {ok : Nat → Prop} {w : World} {v : Value} {xs : List Int} (h : Ints ok w v xs) (o : Obj) : Ints ok (w.alloc o) v xs :=
  h.fresh ((Below.refl _ _).alloc (Nat.le_refl _) o)
theorem Ints.mono {ok ok' : Nat → Prop} {w : World} {v : Value} {xs : List Int} (h : Ints ok w v xs) (ho : ∀ b, b < w.heap.size → ok b → ok' b) : Ints ok' w v xs := by
  obtain ⟨A, cap, rfl, h1, h2, h3, h4, h5⟩ := h
  refine ⟨A, cap, rfl, h1, h2, h3, fun h0 => ?_, h5⟩
  obtain ⟨ad, rfl, hk, hl, hc⟩ := h4 h0
  exact ⟨ad, rfl, ho _ hl hk, hl, hc⟩
theorem Ints.shape {ok : Nat → Prop} {w : World} {v : Value} {xs : List Int} (h : Ints ok w v xs) : ∃ A c, v = .slice A xs.length c := by
  obtain ⟨A, cap, rfl, _⟩ := h
  exact ⟨A, cap, rfl⟩
theorem Ints.nil (ok : Nat → Prop) (w : World) : Ints ok w (.slice none 0 0) [] := ⟨none, 0, rfl, by simp, by simp [maxLen], fun _ => rfl, fun h => by simp at h, by simp, by simp⟩
theorem Ints.wf {ok : Nat → Prop} {w : World} {v : Value} {xs : List Int} (h : Ints ok w v xs) : ∀ x ∈ xs, (Lit.int .i64 x).wf = true := by
  obtain ⟨A, cap, rfl, h1, h2, h3, h4, h5⟩ := h
  exact h5.2
theorem Ints.len {ok : Nat → Prop} {w : World} {v : Value} {xs : List Int} (h : Ints ok w v xs) : xs.length * 8 ≤ 140737488355328 := by
  obtain ⟨A, cap, rfl, h1, h2, h3, h4, h5⟩ := h
  exact h5.1
/-- As the walk meets it: the value written out, and a cell for each index. -/
theorem Ints.open {ok : Nat → Prop} {w : World} {v : Value} {xs : List Int} (h : Ints ok w v xs) : ∃ (A : Option Addr) (cap : Nat), v = .slice A xs.length cap ∧ xs.length ≤ cap ∧ cap ≤ maxLen ∧ (A = none → cap = 0) ∧
    (0 < xs.length → ∃ ad, A = some ad ∧ ok ad.block ∧ ad.block < w.heap.size ∧ ∀ i x, xs[i]? = some x → w.cell? (ad.add i) = some (.int .i64 x)) ∧
    xs.length * 8 ≤ 140737488355328 ∧ ∀ x ∈ xs, (Lit.int .i64 x).wf = true := h
/-- Block b is a row of cells of type e. -/
def IsRow (e : TypeId) (w : World) (b : Nat) : Prop := ∃ cs f, w.heap[b]? = some (.cells cs e f)
theorem IsRow.same {e : TypeId} {w w' : World} {b : Nat} (h : IsRow e w b) (hb : w'.heap[b]? = w.heap[b]?) : IsRow e w' b := by
  obtain ⟨cs, f, h⟩ := h
  exact ⟨cs, f, hb.trans h⟩
/-- v is a slice of the ints xs in rows of type e from base on. -/
def IntsR (e base : Nat) (w : World) (v : Value) (xs : List Int) : Prop := Ints (fun b => base ≤ b ∧ IsRow e w b) w v xs
theorem IntsR.keep {e base : Nat} {w w' : World} {v : Value} {xs : List Int} (h : IntsR e base w v xs) (hs : w.heap.size ≤ w'.heap.size) (hb : ∀ b, base ≤ b → IsRow e w b → b < w.heap.size → w'.heap[b]? = w.heap[b]?) : IntsR e base w' v xs := by
  have h1 := Ints.keep (w' := w') h hs (fun b hk hl => hb b hk.1 hk.2 hl)
  obtain ⟨A, cap, rfl, a1, a2, a3, a4, a5⟩ := h1
  refine ⟨A, cap, rfl, a1, a2, a3, fun h0 => ?_, a5⟩
  obtain ⟨ad, rfl, hk, hl, hc⟩ := a4 h0
  obtain ⟨A', cap', e1, _, _, _, b4, _⟩ := h
  obtain ⟨ad', e2, hk', hl', _⟩ := b4 h0
  cases e1
  cases e2
  exact ⟨ad, rfl, ⟨hk.1, hk.2.same (hb _ hk.1 hk.2 hl')⟩, hl, hc⟩
theorem IntsR.turn {e base : Nat} {S : Nat → Prop} {w w' : World} {v : Value} {xs : List Int} (h : IntsR e base w v xs) (ht : Turn S w w') (hn : ∀ b, base ≤ b → IsRow e w b → ¬ S b) : IntsR e base w' v xs :=
  h.keep ht.size fun b h1 h2 h3 => ht.block b h3 (hn b h1 h2)
theorem IntsR.fresh {e base : Nat} {w w' : World} {v : Value} {xs : List Int} (h : IntsR e base w v xs) (hb : Below w.heap.size w w') : IntsR e base w' v xs :=
  h.keep hb.size fun b _ _ hl => hb.block b hl
theorem IntsR.base {e base base' : Nat} {w : World} {v : Value} {xs : List Int} (h : IntsR e base w v xs) (hb : base' ≤ base) : IntsR e base' w v xs := Ints.mono h fun _ _ hk => ⟨Nat.le_trans hb hk.1, hk.2⟩
theorem IntsR.nil (e base : Nat) (w : World) : IntsR e base w (.slice none 0 0) [] := Ints.nil _ _
theorem intsR_of_row {w : World} {base : Nat} {e : TypeId} {v : Value} {n : Nat} {xs : List Int} (h : w.ownsRow base e 1 v n (xs.map (Value.int .i64))) (hl : n * 8 ≤ 140737488355328) (hw : ∀ x ∈ xs, (Lit.int .i64 x).wf = true) :
    IntsR e base w v xs := by
  have hn : xs.length = n := by have := h.1; simpa using this
  have hcells : ∀ g, v.ownBlock = some g → ∀ j u, (xs.map (Value.int .i64))[j]? = some u → w.cell? ((⟨g, 0, none⟩ : Addr).add j) = some u := fun g hg => h.cells hg
  rcases h.2 with ⟨rfl, rfl⟩ | ⟨g, cap, cur, rfl, hg, hh, h1, h2, _⟩
  · have : xs = [] := List.eq_nil_of_length_eq_zero hn
    subst this
    exact Ints.nil _ _
  · refine ⟨some ⟨g, 0, none⟩, cap, by rw [hn], by omega, h2, (fun h => by cases h), fun _ => ⟨_, rfl, ⟨hg, _, _, hh⟩, heap_lt hh, fun i x hx => ?_⟩, by omega, hw⟩
    exact hcells g rfl i _ (by simp [hx])
theorem ints_of_row {w : World} {base : Nat} {e : TypeId} {v : Value} {n : Nat} {xs : List Int} (h : w.ownsRow base e 1 v n (xs.map (Value.int .i64))) (hl : n * 8 ≤ 140737488355328) (hw : ∀ x ∈ xs, (Lit.int .i64 x).wf = true) :
    Ints (base ≤ ·) w v xs := by
  have hn : xs.length = n := by have := h.1; simpa using this
  have hcells : ∀ g, v.ownBlock = some g → ∀ j u, (xs.map (Value.int .i64))[j]? = some u → w.cell? ((⟨g, 0, none⟩ : Addr).add j) = some u := fun g hg => h.cells hg
  rcases h.2 with ⟨rfl, rfl⟩ | ⟨g, cap, cur, rfl, hg, hh, h1, h2, _⟩
  · have : xs = [] := List.eq_nil_of_length_eq_zero hn
    subst this
    exact Ints.nil _ _
  · refine ⟨some ⟨g, 0, none⟩, cap, by rw [hn], by omega, h2, (fun h => by cases h), fun _ => ⟨_, rfl, hg, heap_lt hh, fun i x hx => ?_⟩, by omega, hw⟩
    exact hcells g rfl i _ (by simp [hx])
theorem ints_oneAt {w : World} {g : Nat} {x : Int} (h : w.heap[g]? = some (.cells #[.int .i64 x] 3)) (hx : (Lit.int .i64 x).wf = true) : Ints (fun _ => True) w (.slice (some ⟨g, 0, none⟩) 1 1) [x] := by
  refine ⟨_, 1, rfl, by simp, by simp [maxLen], (fun h => by cases h), fun _ => ⟨_, rfl, trivial, heap_lt h, ?_⟩, by simp, by simpa using hx⟩
  intro i y hy
  match i, hy with
  | 0, hy =>
    simp at hy
    subst hy
    exact cellsH h 0
theorem row_of_nil (w : World) (base : Nat) (e : TypeId) : w.ownsRow base e 1 (.slice none 0 0) 0 (([] : List Int).map (Value.int .i64)) := World.ownsRow_nil _ _ _ _

/-- 'append(s, x...)', both of ints, s a row of the call's own. -/
theorem wpList_append_ints {P : Program} (w : World) {ops : Array Oper} {rest : List Oper} {o : Oper} {a : Act} {Q : Exit → Act → World → Prop} (hgd : o.guard = none) (s x : Operand) (t : TypeId)
    (ho : o.op = .call { callee := .builtin .append, args := #[s, x], argTypes := #[t, t] }) (base : Nat) (e : TypeId) (ht : P.underlying t = some (.slice e))
    (hinfo : (P.info? e).map (fun i => (i.zero, i.size, i.bytes)) = some (some (.int .i64 0), 1, 8))
    (v : Value) (n : Nat) (xs : List Int) (hs : a.eval s = v) (hown : w.ownsRow base e 1 v n (xs.map (Value.int .i64))) (ok : Nat → Prop) (u : Value) (ys : List Int) (hx : a.eval x = u) (hu : Ints ok w u ys)
    (hbytes : (n + ys.length) * 8 ≤ 140737488355328) (hbase : base ≤ w.heap.size)
    (h : ∀ v' w', w'.ownsRow base e 1 v' (n + ys.length) ((xs ++ ys).map (Value.int .i64)) → w.grownBy w' v.ownBlock → wpList P ops Q rest (a.put o.dst v') w') : wpList P ops Q (o :: rest) a w := by
  obtain ⟨i, hi, hz0, hz1, hz2⟩ := info_parts hinfo
  obtain ⟨A, cap, rfl, h1, h2, h3, h4, h5⟩ := hu
  cases A with
  | none =>
    have hc := h3 rfl
    subst hc
    have hy : ys = [] := List.eq_nil_of_length_eq_zero (by omega)
    subst hy
    refine wpList_append_own_none hgd s x t ho base e i 1 ht hi v n _ hs hown hx ?_
    refine h v w (by simpa using hown) (World.grownBy.refl _ _)
  | some ad =>
    refine wpList_append_own w hgd s x t ho base e i (.int .i64 0) 1 8 ht hi hz0 hz1 hz2 rfl (by decide) v n _ hs hown ad ys.length cap (ys.map (Value.int .i64)) hx (by simp) ?_ (ints_oneCell _ _) (by unfold maxLen; omega) hbytes hbase ?_
    · intro j y hj
      simp only [List.getElem?_map, Option.map_eq_some_iff] at hj
      obtain ⟨z, hz, rfl⟩ := hj
      obtain ⟨ad', e1, _, _, hc⟩ := h4 (by have := (List.getElem?_eq_some_iff.1 hz).1; omega)
      cases e1
      exact hc j z hz
    · intro v' w' r1 r2 _
      exact h v' w' (by rw [List.map_append]; exact r1) r2
end Go.Proofs.YtmehknlijcbphaaDoor
