/- The reference heap: its items, find and New; no condition. -/
import Derived.Test.YtobniolmielikaaRef1
namespace Go.Proofs.Ytobniolmielikaa
open Go.RowKit

/-- An item as it lies in memory. -/
structure It where
  a : Int
  o : Ob
  ra : Option Addr
  rc : Nat
  wa : Option Addr
  wc : Nat
def It.val (x : It) : Value := .agg #[.int .i64 x.o.op, .int .i64 x.o.n, .int .i64 x.o.ar, .slice x.ra x.o.refs.length x.rc, .slice x.wa x.o.words.length x.wc]
def It.cells (x : It) : List Value := [.int .i64 x.a, .int .i64 x.o.op, .int .i64 x.o.n, .int .i64 x.o.ar, .slice x.ra x.o.refs.length x.rc, .slice x.wa x.o.words.length x.wc]
def flat (l : List It) : List Value := l.flatMap It.cells
theorem flat_nil : flat [] = [] := rfl
theorem flat_append (l m : List It) : flat (l ++ m) = flat l ++ flat m := by simp [flat]
theorem flat_one (x : It) : flat [x] = x.cells := by simp [flat]
theorem flat_length : ∀ l : List It, (flat l).length = l.length * 6
  | [] => rfl
  | x :: r => by
    have := flat_length r
    have e : flat (x :: r) = x.cells ++ flat r := by simp [flat]
    rw [e, List.length_append, this, List.length_cons]
    simp [It.cells]
    omega
theorem flat_get : ∀ (l : List It) (k : Nat) (x : It) (j : Nat), l[k]? = some x → j < 6 → (flat l)[k * 6 + j]? = x.cells[j]?
  | [], k, x, j, h, _ => by simp at h
  | y :: r, 0, x, j, h, hj => by
    simp at h
    subst h
    have e : flat (y :: r) = y.cells ++ flat r := by simp [flat]
    have hl : y.cells.length = 6 := rfl
    rw [e, Nat.zero_mul, Nat.zero_add, List.getElem?_append_left (by rw [hl]; exact hj)]
  | y :: r, k + 1, x, j, h, hj => by
    have ih := flat_get r k x j (by simpa using h) hj
    have e : flat (y :: r) = y.cells ++ flat r := by simp [flat]
    have hl : y.cells.length = 6 := rfl
    rw [e, List.getElem?_append_right (by rw [hl]; omega), hl, ← ih]
    congr 1
    omega
theorem flat_one' (l : List It) : ∀ u ∈ flat l, u.oneCell' = true := by
  intro u hu
  obtain ⟨x, _, hx⟩ := List.mem_flatMap.1 hu
  simp [It.cells] at hx
  rcases hx with rfl | rfl | rfl | rfl | rfl | rfl <;> rfl

/-- The cells of an item. -/
structure ItAt (w : World) (b o : Nat) (x : It) : Prop where
  c0 : w.cell? ⟨b, o, none⟩ = some (.int .i64 x.a)
  c1 : w.cell? ⟨b, o + 1, none⟩ = some (.int .i64 x.o.op)
  c2 : w.cell? ⟨b, o + 2, none⟩ = some (.int .i64 x.o.n)
  c3 : w.cell? ⟨b, o + 3, none⟩ = some (.int .i64 x.o.ar)
  c4 : w.cell? ⟨b, o + 4, none⟩ = some (.slice x.ra x.o.refs.length x.rc)
  c5 : w.cell? ⟨b, o + 5, none⟩ = some (.slice x.wa x.o.words.length x.wc)
theorem ItAt.keep {w w' : World} {b o : Nat} {x : It} (h : ItAt w b o x) (hb : w'.heap[b]? = w.heap[b]?) : ItAt w' b o x := by
  have e : ∀ i, w'.cell? ⟨b, i, none⟩ = w.cell? ⟨b, i, none⟩ := fun i => World.cell?_of_block (a := ⟨b, i, none⟩) hb
  exact ⟨(e _).trans h.c0, (e _).trans h.c1, (e _).trans h.c2, (e _).trans h.c3, (e _).trans h.c4, (e _).trans h.c5⟩

/-- v is a slice of the items l. -/
def Raw (ok : Nat → Prop) (w : World) (v : Value) (l : List It) : Prop :=
  ∃ (A : Option Addr) (cap : Nat), v = .slice A l.length cap ∧ l.length ≤ cap ∧ cap ≤ maxLen ∧ (A = none → cap = 0) ∧
    (0 < l.length → ∃ b o, A = some ⟨b, o, none⟩ ∧ ok b ∧ b < w.heap.size ∧ ∀ k x, l[k]? = some x → ItAt w b (o + k * 6) x) ∧ l.length * 80 ≤ 140737488355328
theorem Raw.keep {ok : Nat → Prop} {w w' : World} {v : Value} {l : List It} (h : Raw ok w v l) (hs : w.heap.size ≤ w'.heap.size) (hb : ∀ b, ok b → b < w.heap.size → w'.heap[b]? = w.heap[b]?) : Raw ok w' v l := by
  obtain ⟨A, cap, rfl, h1, h2, h3, h4, h5⟩ := h
  refine ⟨A, cap, rfl, h1, h2, h3, fun h0 => ?_, h5⟩
  obtain ⟨b, o, e, hk, hl, hc⟩ := h4 h0
  exact ⟨b, o, e, hk, by omega, fun k x hx => (hc k x hx).keep (hb b hk hl)⟩
theorem Raw.fresh {ok : Nat → Prop} {w w' : World} {v : Value} {l : List It} (h : Raw ok w v l) (hb : Below w.heap.size w w') : Raw ok w' v l :=
  h.keep hb.size fun b _ hl => hb.block b hl
theorem Raw.turn {ok S : Nat → Prop} {w w' : World} {v : Value} {l : List It} (h : Raw ok w v l) (ht : Turn S w w') (ho : ∀ b, ok b → ¬ S b) : Raw ok w' v l :=
  h.keep ht.size fun b hk hl => ht.block b hl (ho b hk)
theorem Raw.mono {ok ok' : Nat → Prop} {w : World} {v : Value} {l : List It} (h : Raw ok w v l) (ho : ∀ b, b < w.heap.size → ok b → ok' b) : Raw ok' w v l := by
  obtain ⟨A, cap, rfl, h1, h2, h3, h4, h5⟩ := h
  refine ⟨A, cap, rfl, h1, h2, h3, fun h0 => ?_, h5⟩
  obtain ⟨b, o, e, hk, hl, hc⟩ := h4 h0
  exact ⟨b, o, e, ho b hl hk, hl, hc⟩
theorem Raw.shape {ok : Nat → Prop} {w : World} {v : Value} {l : List It} (h : Raw ok w v l) : ∃ A c, v = .slice A l.length c := by
  obtain ⟨A, cap, e, _⟩ := h
  exact ⟨A, cap, e⟩
theorem Raw.len {ok : Nat → Prop} {w : World} {v : Value} {l : List It} (h : Raw ok w v l) : l.length * 80 ≤ 140737488355328 := by
  obtain ⟨A, cap, e, h1, h2, h3, h4, h5⟩ := h
  exact h5
theorem Raw.at {ok : Nat → Prop} {w : World} {A : Option Addr} {n c : Nat} {l : List It} (h : Raw ok w (.slice A n c) l) {k : Nat} {x : It} (hk : l[k]? = some x) : ∃ b o, A = some ⟨b, o, none⟩ ∧ ItAt w b (o + k * 6) x := by
  obtain ⟨A', cap, e, h1, h2, h3, h4, h5⟩ := h
  cases e
  have := (List.getElem?_eq_some_iff.1 hk).1
  obtain ⟨b, o, e, _, _, hc⟩ := h4 (by omega)
  exact ⟨b, o, e, hc k x hk⟩
/-- Such a row of the call's own. -/
abbrev Own (base : Nat) (w : World) (v : Value) (l : List It) : Prop := w.ownsRow base 97 6 v l.length (flat l)
theorem Own.raw {base : Nat} {w : World} {v : Value} {l : List It} (h : Own base w v l) (hl : l.length * 80 ≤ 140737488355328) : Raw (fun b => base ≤ b ∧ IsRow 97 w b) w v l := by
  rcases h.2 with ⟨rfl, h0⟩ | ⟨g, cap, cur, rfl, hg, hb, h1, h2, h3, h4⟩
  · have : l = [] := List.eq_nil_of_length_eq_zero h0
    subst this
    exact ⟨none, 0, rfl, by simp, by simp [maxLen], fun _ => rfl, fun h => by simp at h, by simp⟩
  · refine ⟨_, cap, rfl, h1, h2, (fun h => by cases h), fun _ => ⟨g, 0, rfl, ⟨hg, _, _, hb⟩, heap_lt hb, fun k x hx => ?_⟩, hl⟩
    have hkl := (List.getElem?_eq_some_iff.1 hx).1
    have hc := cellsH hb
    have key : ∀ j, j < 6 → w.cell? ⟨g, 0 + k * 6 + j, none⟩ = x.cells[j]? := by
      intro j hj
      rw [hc, ← flat_get l k x j hx hj, ← h4, List.getElem?_take, if_pos (by omega), Array.getElem?_toList]
      congr 1
      omega
    exact ⟨key 0 (by omega), key 1 (by omega), key 2 (by omega), key 3 (by omega), key 4 (by omega), key 5 (by omega)⟩
theorem Own.kept {base : Nat} {w w' : World} {v : Value} {l : List It} (h : Own base w v l) (hb : ∀ g, v.ownBlock = some g → w'.heap[g]? = w.heap[g]?) : Own base w' v l := by
  refine ⟨h.1, ?_⟩
  rcases h.2 with h0 | ⟨g, cap, cur, rfl, hg, hh, rest⟩
  · exact .inl h0
  · exact .inr ⟨g, cap, cur, rfl, hg, (hb g rfl).trans hh, rest⟩
theorem Own.fresh {base : Nat} {w w' : World} {v : Value} {l : List It} (h : Own base w v l) (hb : Below w.heap.size w w') : Own base w' v l :=
  h.kept fun g hg => hb.block g (h.lt g hg).2

/-- The items by their addresses. -/
def keyed (l : List It) : List (Int × It) := l.map fun x => (x.a, x)
/-- What find answers. -/
def fnd (l : List It) (k : Int) : Int := match ix (keyed l) k with | some (i, _) => i | none => -1
theorem ix_first {β : Type} : ∀ (l : List (Int × β)) (k : Int) (i : Nat) (v : β), l[i]? = some (k, v) → (∀ j, j < i → ∀ p, l[j]? = some p → p.1 ≠ k) → ix l k = some (i, v)
  | [], k, i, v, h, _ => by simp at h
  | p :: r, k, 0, v, h, _ => by
    simp at h
    subst h
    simp [ix]
  | p :: r, k, i + 1, v, h, hn => by
    have h0 := hn 0 (by omega) p rfl
    have ih := ix_first r k i v (by simpa using h) (fun j hj q hq => hn (j + 1) (by omega) q (by simpa using hq))
    simp [ix, Ne.symm h0, ih]
theorem fnd_some {l : List It} {k : Int} {i : Nat} {x : It} (h : l[i]? = some x) (hk : x.a = k) (hn : ∀ j, j < i → ∀ y, l[j]? = some y → y.a ≠ k) : fnd l k = i := by
  have : ix (keyed l) k = some (i, x) := by
    refine ix_first _ _ _ _ (by simp [keyed, h, hk]) ?_
    intro j hj p hp
    simp only [keyed, List.getElem?_map, Option.map_eq_some_iff] at hp
    obtain ⟨y, hy, rfl⟩ := hp
    exact hn j hj y hy
  simp [fnd, this]
theorem fnd_none {l : List It} {k : Int} (hn : ∀ x ∈ l, x.a ≠ k) : fnd l k = -1 := by
  have : ix (keyed l) k = none := by
    refine ix_none.2 fun h => ?_
    simp only [keyed, List.map_map, List.mem_map] at h
    obtain ⟨x, hx, e⟩ := h
    exact hn x hx e
  simp [fnd, this]

set_option maxHeartbeats 400000 in
theorem find_any (ok : Nat → Prop) (w : World) (v : Value) (l : List It) (k : Int) (h : Raw ok w v l) :
    Calls Try.prog 99 #[v, .int .i64 k] w fun e w' => e = .returned (.int .i64 (fnd l k)) ∧ w' = w := by
  obtain ⟨A, c, rfl⟩ := h.shape
  have hlen := h.len
  have H := Lib.hid h
  clear h
  go_enter Try.func99, Try.ntmps99
  go_wp2_with fail
  go_loopw [5] (fun i wr => ∃ n : Nat, n ≤ l.length ∧ i = .int .i64 n ∧ (∀ j, j < n → ∀ y, l[j]? = some y → y.a ≠ k) ∧ wr = w) (fun i _ => l.length - (intOf i).toNat)
  case atStart => exact ⟨0, Nat.zero_le _, rfl, fun j hj => by omega, rfl⟩
  case round =>
    obtain ⟨n, hn, rfl, hno, rfl⟩ := hrel
    have HNO := Lib.hid hno
    clear hno
    by_cases hlt : n < l.length
    · have hx := List.getElem?_eq_getElem hlt
      generalize l[n] = x at hx
      obtain ⟨b, o, rfl, hat⟩ := H.out.at hx
      have c0 := hat.c0
      have HX := Lib.hid hx
      clear hat hx
      by_cases he : x.a = k
      · have HF := Lib.hid (fnd_some HX.out he HNO.out)
        have hb : (x.a == k) = true := by simpa using he
        clear he
        go_wp2_with fail
        go_ret
        exact ⟨by rw [HF.out]; rfl, by first | rfl | trivial⟩
      · have hb : (x.a == k) = false := by simpa using he
        have HE := Lib.hid he
        clear he
        go_wp2_with fail
        go_roundw
        case rel =>
          refine ⟨n + 1, by omega, by go_num, ?_, trivial⟩
          intro j hj y hy
          by_cases hjn : j = n
          · subst hjn
            rw [HX.out] at hy
            cases hy
            exact HE.out
          · exact HNO.out j (by omega) y hy
        case measure => simp [intOf]; omega
    · have he : n = l.length := by omega
      subst he
      have HF := Lib.hid (fnd_none (l := l) (k := k) (fun x hx => by
        obtain ⟨j, hj⟩ := List.getElem?_of_mem hx
        exact HNO.out j (List.getElem?_eq_some_iff.1 hj).1 x hj))
      go_wp2_with fail
      go_ret
      exact ⟨by rw [HF.out]; rfl, by first | rfl | trivial⟩
end Go.Proofs.Ytobniolmielikaa
