/- Texts of the collector's proof, joined: Bfs, Scr2, Scr3, Heap13, Scr5, Scr6. -/
import Derived.Test.YtobniolmielikaaZaf
import Derived.Test.YtobniolmielikaaZac
/- Breadth-first search through a heap, as lists: the program's way and the reference's; no program in sight; no condition. -/
namespace Go.Proofs.Ytobniolmielikaa
open Go.RowKit

/-- The refs of what has not been seen yet. -/
def vol (E : List (Int × Ob)) (out : List Int) : Nat := (E.map fun p => if p.1 ∈ out then 0 else p.2.refs.length).sum
theorem vol_cons (p : Int × Ob) (E : List (Int × Ob)) (out : List Int) : vol (p :: E) out = (if p.1 ∈ out then 0 else p.2.refs.length) + vol E out := by simp [vol]
theorem vol_same : ∀ {E : List (Int × Ob)} {a : Int} (_ : a ∉ E.map (·.1)) (out : List Int), vol E (out ++ [a]) = vol E out
  | [], _, _, _ => rfl
  | p :: E, a, h, out => by
    simp only [List.map_cons, List.mem_cons, not_or] at h
    have ih := vol_same (E := E) h.2 out
    have hne : p.1 ≠ a := fun e => h.1 e.symm
    have : (p.1 ∈ out ++ [a]) ↔ p.1 ∈ out := by simp [hne]
    rw [vol_cons, vol_cons, ih]
    simp only [this]
theorem vol_step : ∀ {E : List (Int × Ob)} (_ : (E.map (·.1)).Nodup) {a : Int} {o : Ob} {out : List Int} (_ : (a, o) ∈ E) (_ : a ∉ out), vol E (out ++ [a]) + o.refs.length = vol E out
  | [], _, _, _, _, h, _ => by simp at h
  | p :: E, hd, a, o, out, hm, hn => by
    rw [List.map_cons, List.nodup_cons] at hd
    rw [vol_cons, vol_cons]
    rcases List.mem_cons.1 hm with rfl | hm
    · rw [vol_same hd.1]
      simp [hn]
      omega
    · have ih := vol_step hd.2 hm hn
      have hne : p.1 ≠ a := fun e => hd.1 (e ▸ List.mem_map_of_mem (f := (·.1)) hm)
      have : (p.1 ∈ out ++ [a]) ↔ p.1 ∈ out := by simp [hne]
      simp only [this]
      omega
theorem vol_perm {E F : List (Int × Ob)} (h : E.Perm F) (out : List Int) : vol E out = vol F out := (h.map _).sum_nat

/-- The program's search: what has been seen, what is to do; none: an address is dangling. -/
def bfs (E : List (Int × Ob)) (acc : Int → Bool) : Nat → List Int → List Int → Option (List Int)
  | _, out, [] => some out
  | 0, _, _ :: _ => none
  | n + 1, out, a :: t => if a ∈ out ∨ acc a = false then bfs E acc n out t else
    match get E a with
    | none => none
    | some o => bfs E acc n (out ++ [a]) (t ++ o.refs)
/-- The reference's. -/
def rbfs (E : List (Int × Ob)) (acc : Int → Bool) : Nat → List Int → List Int → Option (List Int)
  | _, out, [] => some out
  | 0, _, _ :: _ => none
  | n + 1, out, a :: t => if a ∈ out then rbfs E acc n out t else
    if ((get E a).getD ob0).refs.all (fun x => (get E x).isSome) = true then rbfs E acc n (out ++ [a]) (t ++ ((get E a).getD ob0).refs.filter acc) else none
theorem bfs_nil (E : List (Int × Ob)) (acc : Int → Bool) (n : Nat) (out : List Int) : bfs E acc n out [] = some out := by cases n <;> rfl
theorem rbfs_nil (E : List (Int × Ob)) (acc : Int → Bool) (n : Nat) (out : List Int) : rbfs E acc n out [] = some out := by cases n <;> rfl
theorem bfs_skip {E : List (Int × Ob)} {acc : Int → Bool} {n : Nat} {out t : List Int} {a : Int} (h : a ∈ out ∨ acc a = false) : bfs E acc (n + 1) out (a :: t) = bfs E acc n out t := by rw [bfs, if_pos h]
theorem bfs_bad1 {E : List (Int × Ob)} {acc : Int → Bool} {n : Nat} {out t : List Int} {a : Int} (h : a ∉ out) (h2 : acc a = true) (hg : get E a = none) : bfs E acc (n + 1) out (a :: t) = none := by
  rw [bfs, if_neg (by simp [h, h2]), hg]
theorem bfs_go {E : List (Int × Ob)} {acc : Int → Bool} {n : Nat} {out t : List Int} {a : Int} {o : Ob} (h : a ∉ out) (h2 : acc a = true) (hg : get E a = some o) : bfs E acc (n + 1) out (a :: t) = bfs E acc n (out ++ [a]) (t ++ o.refs) := by
  rw [bfs, if_neg (by simp [h, h2]), hg]
theorem rbfs_skip {E : List (Int × Ob)} {acc : Int → Bool} {n : Nat} {out t : List Int} {a : Int} (h : a ∈ out) : rbfs E acc (n + 1) out (a :: t) = rbfs E acc n out t := by rw [rbfs, if_pos h]
theorem rbfs_go {E : List (Int × Ob)} {acc : Int → Bool} {n : Nat} {out t : List Int} {a : Int} (h : a ∉ out) (h2 : ((get E a).getD ob0).refs.all (fun x => (get E x).isSome) = true) :
    rbfs E acc (n + 1) out (a :: t) = rbfs E acc n (out ++ [a]) (t ++ ((get E a).getD ob0).refs.filter acc) := by rw [rbfs, if_neg h, if_pos h2]
theorem rbfs_bad {E : List (Int × Ob)} {acc : Int → Bool} {n : Nat} {out t : List Int} {a : Int} (h : a ∉ out) (h2 : ((get E a).getD ob0).refs.all (fun x => (get E x).isSome) = false) :
    rbfs E acc (n + 1) out (a :: t) = none := by rw [rbfs, if_neg h, if_neg (by simp [h2])]

theorem bfs_fuel {E : List (Int × Ob)} {acc : Int → Bool} (hd : (E.map (·.1)).Nodup) : ∀ (n m : Nat) (out t : List Int), vol E out + t.length ≤ n → vol E out + t.length ≤ m → bfs E acc n out t = bfs E acc m out t
  | n, m, out, [], _, _ => by rw [bfs_nil, bfs_nil]
  | 0, m, out, a :: t, h, _ => by simp at h
  | n + 1, 0, out, a :: t, _, h => by simp at h
  | n + 1, m + 1, out, a :: t, h1, h2 => by
    simp only [List.length_cons] at h1 h2
    by_cases hc : a ∈ out ∨ acc a = false
    · rw [bfs_skip hc, bfs_skip hc]
      exact bfs_fuel hd n m out t (by omega) (by omega)
    · simp only [not_or, Bool.not_eq_false] at hc
      cases hg : get E a with
      | none => rw [bfs_bad1 hc.1 hc.2 hg, bfs_bad1 hc.1 hc.2 hg]
      | some o =>
        have hs := vol_step hd ((get_mem hd).1 hg) hc.1
        rw [bfs_go hc.1 hc.2 hg, bfs_go hc.1 hc.2 hg]
        exact bfs_fuel hd n m _ _ (by simp; omega) (by simp; omega)

theorem bfs_bad {E : List (Int × Ob)} {acc : Int → Bool} (hacc : ∀ x, get E x = none → acc x = true) : ∀ (n : Nat) (out t : List Int) (x : Int), x ∈ t → get E x = none → (∀ y ∈ out, (get E y).isSome = true) → bfs E acc n out t = none
  | n, out, [], x, h, _, _ => by simp at h
  | 0, out, a :: t, _, _, _, _ => rfl
  | n + 1, out, a :: t, x, hx, hg, ho => by
    by_cases hc : a ∈ out ∨ acc a = false
    · rw [bfs_skip hc]
      refine bfs_bad hacc n out t x ?_ hg ho
      rcases List.mem_cons.1 hx with rfl | h
      · rcases hc with hc | hc
        · have := ho _ hc
          rw [hg] at this
          simp at this
        · rw [hacc _ hg] at hc
          cases hc
      · exact h
    · simp only [not_or, Bool.not_eq_false] at hc
      cases hga : get E a with
      | none => rw [bfs_bad1 hc.1 hc.2 hga]
      | some o =>
        rw [bfs_go hc.1 hc.2 hga]
        refine bfs_bad hacc n _ _ x ?_ hg ?_
        · rcases List.mem_cons.1 hx with rfl | h
          · rw [hg] at hga; cases hga
          · simp [h]
        · intro y hy
          rcases List.mem_append.1 hy with hy | hy
          · exact ho y hy
          · simp at hy
            subst hy
            rw [hga]
            rfl

theorem bfs_rbfs {E : List (Int × Ob)} {acc : Int → Bool} (hd : (E.map (·.1)).Nodup) (hacc : ∀ x, get E x = none → acc x = true) : ∀ (n m : Nat) (out t : List Int), vol E out + t.length ≤ n → vol E out + (t.filter acc).length ≤ m →
    (∀ x ∈ t, (get E x).isSome = true) → (∀ x ∈ out, (get E x).isSome = true) → rbfs E acc m out (t.filter acc) = bfs E acc n out t
  | n, m, out, [], _, _, _, _ => by simp [rbfs_nil, bfs_nil]
  | 0, m, out, a :: t, h, _, _, _ => by simp at h
  | n + 1, m, out, a :: t, h1, h2, ht, ho => by
    simp only [List.length_cons] at h1
    by_cases ha : acc a = true
    · rw [List.filter_cons_of_pos ha] at h2 ⊢
      obtain ⟨m, rfl⟩ : ∃ k, m = k + 1 := ⟨m - 1, by simp at h2; omega⟩
      simp only [List.length_cons] at h2
      by_cases hm : a ∈ out
      · rw [rbfs_skip hm, bfs_skip (.inl hm)]
        exact bfs_rbfs hd hacc n m out t (by omega) (by omega) (fun x hx => ht x (by simp [hx])) ho
      · have hs := ht a (by simp)
        obtain ⟨o, hg⟩ := Option.isSome_iff_exists.1 hs
        have hv := vol_step hd ((get_mem hd).1 hg) hm
        have hlen := List.length_filter_le acc o.refs
        have ho' : ∀ x ∈ out ++ [a], (get E x).isSome = true := by
          intro x hx
          rcases List.mem_append.1 hx with hx | hx
          · exact ho x hx
          · simp at hx; subst hx; exact hs
        rw [bfs_go hm ha hg]
        cases hall : o.refs.all (fun x => (get E x).isSome) with
        | true =>
          rw [rbfs_go hm (by rw [hg]; exact hall), hg]
          show rbfs E acc m (out ++ [a]) (t.filter acc ++ o.refs.filter acc) = _
          rw [← List.filter_append]
          refine bfs_rbfs hd hacc n m _ _ (by simp; omega) (by rw [List.filter_append, List.length_append]; omega) ?_ ho'
          intro x hx
          rcases List.mem_append.1 hx with hx | hx
          · exact ht x (by simp [hx])
          · exact List.all_eq_true.1 hall x hx
        | false =>
          rw [rbfs_bad hm (by rw [hg]; exact hall)]
          obtain ⟨x, hx, hn⟩ := List.all_eq_false.1 hall
          exact (bfs_bad hacc n _ _ x (by simp [hx]) (by simpa using hn) ho').symm
    · simp only [Bool.not_eq_true] at ha
      rw [List.filter_cons_of_neg (by simp [ha])] at h2 ⊢
      rw [bfs_skip (.inr ha)]
      exact bfs_rbfs hd hacc n m out t (by omega) h2 (fun x hx => ht x (by simp [hx])) ho

/-- What a search has found. -/
structure Found (E : List (Int × Ob)) (acc : Int → Bool) (out t L : List Int) : Prop where
  nodup : out.Nodup → L.Nodup
  pre : ∃ m, L = out ++ m
  there : ∀ a ∈ L, a ∈ out ∨ (acc a = true ∧ (get E a).isSome = true)
  todo : ∀ x ∈ t, acc x = true → x ∈ L
  closed : ∀ a ∈ L, a ∉ out → ∀ o, get E a = some o → ∀ x ∈ o.refs, acc x = true → x ∈ L
  least : ∀ S : Int → Prop, (∀ x ∈ out, S x) → (∀ x ∈ t, S x) → (∀ a, S a → acc a = true → ∀ o, get E a = some o → ∀ x ∈ o.refs, S x) → ∀ x ∈ L, S x
theorem bfs_found {E : List (Int × Ob)} {acc : Int → Bool} : ∀ (n : Nat) (out t L : List Int), bfs E acc n out t = some L → Found E acc out t L
  | n, out, [], L, h => by
    rw [bfs_nil] at h
    cases h
    exact ⟨id, ⟨[], by simp⟩, fun a ha => .inl ha, by simp, fun a ha hn => absurd ha hn, fun S h1 _ _ => h1⟩
  | 0, out, a :: t, L, h => by cases h
  | n + 1, out, a :: t, L, h => by
    by_cases hc : a ∈ out ∨ acc a = false
    · rw [bfs_skip hc] at h
      have ih := bfs_found n out t L h
      refine ⟨ih.nodup, ih.pre, ih.there, ?_, ih.closed, fun S h1 h2 h3 => ih.least S h1 (fun x hx => h2 x (by simp [hx])) h3⟩
      intro x hx ha
      rcases List.mem_cons.1 hx with rfl | hx
      · rcases hc with hc | hc
        · obtain ⟨m, rfl⟩ := ih.pre
          simp [hc]
        · rw [ha] at hc; cases hc
      · exact ih.todo x hx ha
    · simp only [not_or, Bool.not_eq_false] at hc
      cases hg : get E a with
      | none => rw [bfs_bad1 hc.1 hc.2 hg] at h; cases h
      | some o =>
        rw [bfs_go hc.1 hc.2 hg] at h
        have ih := bfs_found n _ _ L h
        obtain ⟨m, hm⟩ := ih.pre
        have haL : a ∈ L := by rw [hm]; simp
        refine ⟨fun hn => ih.nodup ?_, ⟨[a] ++ m, by rw [hm]; simp⟩, ?_, ?_, ?_, ?_⟩
        · rw [List.nodup_append]
          exact ⟨hn, by simp, fun x hx y hy e => by simp at hy; subst hy; subst e; exact hc.1 hx⟩
        · intro x hx
          rcases ih.there x hx with h1 | h1
          · rcases List.mem_append.1 h1 with h1 | h1
            · exact .inl h1
            · simp at h1
              subst h1
              exact .inr ⟨hc.2, by rw [hg]; rfl⟩
          · exact .inr h1
        · intro x hx hax
          rcases List.mem_cons.1 hx with rfl | hx
          · exact haL
          · exact ih.todo x (by simp [hx]) hax
        · intro x hx hno o' hg' y hy hay
          by_cases e : x = a
          · subst e
            rw [hg] at hg'
            cases hg'
            exact ih.todo y (by simp [hy]) hay
          · exact ih.closed x hx (by simp [hno, e]) o' hg' y hy hay
        · intro S h1 h2 h3
          refine ih.least S ?_ ?_ h3
          · intro x hx
            rcases List.mem_append.1 hx with hx | hx
            · exact h1 x hx
            · simp at hx; subst hx; exact h2 x (by simp)
          · intro x hx
            rcases List.mem_append.1 hx with hx | hx
            · exact h2 x (by simp [hx])
            · exact h3 a (h2 a (by simp)) hc.2 o hg x hx

/-- A search in a moved heap finds what it found, moved. -/
theorem bfs_iso {E E' : List (Int × Ob)} {f : Int → Int} {S : Int → Prop} (hinj : ∀ x y, S x → S y → f x = f y → x = y)
    (hS : ∀ a, S a → ∃ o o', get E a = some o ∧ get E' (f a) = some o' ∧ o'.refs = o.refs.map f ∧ ∀ x ∈ o.refs, S x) :
    ∀ (n : Nat) (out t : List Int), (∀ x ∈ out, S x) → (∀ x ∈ t, S x) → bfs E' (fun _ => true) n (out.map f) (t.map f) = (bfs E (fun _ => true) n out t).map (List.map f)
  | n, out, [], _, _ => by simp [bfs_nil]
  | 0, out, a :: t, _, _ => rfl
  | n + 1, out, a :: t, ho, ht => by
    have ha := ht a (by simp)
    have hmem : f a ∈ out.map f ↔ a ∈ out := by
      constructor
      · intro h
        obtain ⟨b, hb, e⟩ := List.mem_map.1 h
        rw [← hinj b a (ho b hb) ha e]
        exact hb
      · exact fun h => List.mem_map_of_mem h
    by_cases hm : a ∈ out
    · rw [List.map_cons, bfs_skip (.inl (hmem.2 hm)), bfs_skip (.inl hm)]
      exact bfs_iso hinj hS n out t ho (fun x hx => ht x (by simp [hx]))
    · obtain ⟨o, o', h1, h2, h3, h4⟩ := hS a ha
      rw [List.map_cons, bfs_go (fun h => hm (hmem.1 h)) rfl h2, bfs_go hm rfl h1, h3]
      have := bfs_iso hinj hS n (out ++ [a]) (t ++ o.refs) (fun x hx => by
        rcases List.mem_append.1 hx with hx | hx
        · exact ho x hx
        · simp at hx; subst hx; exact ha) (fun x hx => by
        rcases List.mem_append.1 hx with hx | hx
        · exact ht x (by simp [hx])
        · exact h4 x hx)
      simpa using this
end Go.Proofs.Ytobniolmielikaa

/- The law's helper distinct; no condition. -/
namespace Go.Proofs.Ytobniolmielikaa
open Go.RowKit

/-- No address comes twice below k. -/
def Dst (l : List It) (k : Nat) : Prop := ∀ i j x y, i < j → j < k → l[i]? = some x → l[j]? = some y → x.a ≠ y.a
theorem dst_nodup {l : List It} : (l.map (·.a)).Nodup ↔ Dst l l.length := by
  unfold List.Nodup
  rw [List.pairwise_iff_getElem]
  constructor
  · intro h i j x y hij hj hx hy
    have h1 := (List.getElem?_eq_some_iff.1 hx)
    have h2 := (List.getElem?_eq_some_iff.1 hy)
    obtain ⟨a1, rfl⟩ := h1
    obtain ⟨a2, rfl⟩ := h2
    have := h i j (by simpa using a1) (by simpa using a2) hij
    simpa using this
  · intro h i j hi hj hij
    simp at hi hj
    have := h i j l[i] l[j] hij hj (List.getElem?_eq_getElem hi) (List.getElem?_eq_getElem hj)
    simpa using this

set_option maxHeartbeats 1000000 in
theorem distinct_any (ok : Nat → Prop) (w : World) (v : Value) (l : List It) (h : Raw ok w v l) :
    Calls Try.prog 55 #[v] w fun e w' => e = .returned (.bool (decide ((l.map (·.a)).Nodup))) ∧ ∃ n, w' = w.drewN n := by
  obtain ⟨A, c, rfl⟩ := h.shape
  have hlen := h.len
  have H := Lib.hid h
  clear h
  go_enter Try.func55, Try.ntmps55
  go_wp2_with fail
  go_loopw [3] (fun i wr => ∃ k n : Nat, k ≤ l.length ∧ i = .int .i64 k ∧ Dst l k ∧ wr = w.drewN n) (fun i _ => l.length - (intOf i).toNat)
  case atStart => exact ⟨0, 0, Nat.zero_le _, rfl, (fun i j x y _ hj => by omega), rfl⟩
  case round =>
    obtain ⟨k, n, hk, rfl, hd, rfl⟩ := hrel
    have HD := Lib.hid hd
    clear hd
    by_cases hlt : k < l.length
    · have hx := List.getElem?_eq_getElem hlt
      generalize l[k] = x at hx
      obtain ⟨b, o, rfl, hat⟩ := H.out.at hx
      have HX := Lib.hid hx
      have ck : ∀ m, (w.drewN m).cell? ⟨b, o + k * 6, none⟩ = some (.int .i64 x.a) := fun m => hat.c0
      have CK := Lib.hid ck
      clear hx hat ck
      go_wp2_with fail
      go_loopw [4] (fun i wr => ∃ j m : Nat, j ≤ k ∧ i = .int .i64 j ∧ (∀ q y, q < j → l[q]? = some y → y.a ≠ x.a) ∧ wr = w.drewN m) (fun i _ => k - (intOf i).toNat)
      case atStart => exact ⟨0, n, Nat.zero_le _, rfl, (fun q y hq => by omega), rfl⟩
      case round =>
        obtain ⟨j, m, hj, rfl, hno, rfl⟩ := hrel
        have HNO := Lib.hid hno
        clear hno
        by_cases hjk : j < k
        · have hy := List.getElem?_eq_getElem (l := l) (i := j) (by omega)
          generalize l[j] = y at hy
          obtain ⟨b', o', e, hat⟩ := H.out.at hy
          obtain ⟨rfl, rfl⟩ : b = b' ∧ o = o' := by simpa using e
          have cj : (w.drewN m).cell? ⟨b, o + j * 6, none⟩ = some (.int .i64 y.a) := hat.c0
          have ck := CK.out m
          have HY := Lib.hid hy
          clear hy hat e
          by_cases he : y.a = x.a
          · have HF := Lib.hid (show ¬ (l.map (·.a)).Nodup from fun hn => dst_nodup.1 hn j k y x hjk hlt HY.out HX.out he)
            have hb : (y.a == x.a) = true := by simpa using he
            clear he
            generalize hwn : w.drewN m = wn at cj ck ⊢
            have HWN := Lib.hid hwn
            clear hwn
            go_upto_region 7 with (fail)
            go_quiet (fail)
            go_wp2_with fail
            go_ret
            exact ⟨by rw [decide_eq_false HF.out]; rfl, m + nq, by rw [← HWN.out]; simp [World.drewN, Nat.add_assoc]⟩
          · have hb : (y.a == x.a) = false := by simpa using he
            have HE := Lib.hid he
            clear he
            generalize hwn : w.drewN m = wn at cj ck ⊢
            have HWN := Lib.hid hwn
            clear hwn
            go_upto_region 7 with (fail)
            go_quiet (fail)
            go_wp2_with fail
            go_roundw
            case rel =>
              refine ⟨j + 1, m + nq, by omega, by go_num, ?_, by rw [← HWN.out]; simp [World.drewN, Nat.add_assoc]⟩
              intro q z hq hz
              by_cases hqj : q = j
              · subst hqj
                rw [HY.out] at hz
                cases hz
                exact HE.out
              · exact HNO.out q z (by omega) hz
            case measure => simp [intOf]; omega
        · have he : j = k := by omega
          go_wp2_with fail
          go_roundw
          case rel =>
            refine ⟨k + 1, m, by omega, by go_num, ?_, rfl⟩
            intro i q y z hiq hq hy hz
            by_cases hqk : q = k
            · subst hqk
              rw [HX.out] at hz
              cases hz
              exact HNO.out i y (by omega) hy
            · exact HD.out i q y z hiq (by omega) hy hz
          case measure => simp [intOf]; omega
    · have he : k = l.length := by omega
      have HT := Lib.hid (dst_nodup.2 (he ▸ HD.out))
      clear he
      go_wp2_with fail
      go_ret
      exact ⟨by rw [decide_eq_true HT.out]; rfl, n, rfl⟩
end Go.Proofs.Ytobniolmielikaa

/- The law's scripts, and its helper bounded; no condition. -/
namespace Go.Proofs.Ytobniolmielikaa
open Go.RowKit

/-- An operation of a script, as it lies in memory. -/
structure Opn where
  kind : Int
  addr : Int
  o : Ob
  ra : Option Addr
  rc : Nat
  wa : Option Addr
  wc : Nat
  l1 : List It
  na : Option Addr
  nc : Nat
  l2 : List It
  oa : Option Addr
  oc : Nat
abbrev Opn.ov (p : Opn) : Value := .agg #[.int .i64 p.o.op, .int .i64 p.o.n, .int .i64 p.o.ar, .slice p.ra p.o.refs.length p.rc, .slice p.wa p.o.words.length p.wc]
abbrev Opn.nv (p : Opn) : Value := .slice p.na p.l1.length p.nc
abbrev Opn.lv (p : Opn) : Value := .slice p.oa p.l2.length p.oc
abbrev Opn.arr (p : Opn) : Array Value := #[.int .i64 p.kind, .int .i64 p.addr, .int .i64 p.o.op, .int .i64 p.o.n, .int .i64 p.o.ar, .slice p.ra p.o.refs.length p.rc, .slice p.wa p.o.words.length p.wc, .slice p.na p.l1.length p.nc, .slice p.oa p.l2.length p.oc]
/-- What it refers to is in blocks below B. -/
structure OpOk (B : Nat) (w : World) (p : Opn) : Prop where
  ob : ObAt (· < B) w p.ov p.o
  n : Raw (· < B) w p.nv p.l1
  l : Raw (· < B) w p.lv p.l2
  its : ∀ x ∈ p.l1 ++ p.l2, ObAt (· < B) w x.val x.o
theorem OpOk.below {B : Nat} {w w' : World} {p : Opn} (h : OpOk B w p) (hb : Below B w w') : OpOk B w' p :=
  ⟨h.ob.below hb (fun _ h _ => h), h.n.keep hb.size (fun b hk _ => hb.block b hk), h.l.keep hb.size (fun b hk _ => hb.block b hk), fun x hx => (h.its x hx).below hb (fun _ h _ => h)⟩
/-- The cells of an operation. -/
structure OpCells (w : World) (b o : Nat) (p : Opn) : Prop where
  c0 : w.cell? ⟨b, o, none⟩ = some (.int .i64 p.kind)
  c1 : w.cell? ⟨b, o + 1, none⟩ = some (.int .i64 p.addr)
  c2 : w.cell? ⟨b, o + 2, none⟩ = some (.int .i64 p.o.op)
  c3 : w.cell? ⟨b, o + 3, none⟩ = some (.int .i64 p.o.n)
  c4 : w.cell? ⟨b, o + 4, none⟩ = some (.int .i64 p.o.ar)
  c5 : w.cell? ⟨b, o + 5, none⟩ = some (.slice p.ra p.o.refs.length p.rc)
  c6 : w.cell? ⟨b, o + 6, none⟩ = some (.slice p.wa p.o.words.length p.wc)
  c7 : w.cell? ⟨b, o + 7, none⟩ = some (.slice p.na p.l1.length p.nc)
  c8 : w.cell? ⟨b, o + 8, none⟩ = some (.slice p.oa p.l2.length p.oc)
theorem OpCells.keep {w w' : World} {b o : Nat} {p : Opn} (h : OpCells w b o p) (hb : w'.heap[b]? = w.heap[b]?) : OpCells w' b o p := by
  have e : ∀ i, w'.cell? ⟨b, i, none⟩ = w.cell? ⟨b, i, none⟩ := fun i => World.cell?_of_block (a := ⟨b, i, none⟩) hb
  exact ⟨(e _).trans h.c0, (e _).trans h.c1, (e _).trans h.c2, (e _).trans h.c3, (e _).trans h.c4, (e _).trans h.c5, (e _).trans h.c6, (e _).trans h.c7, (e _).trans h.c8⟩
/-- v is a slice of the operations l, all in blocks below B. -/
def Ops (B : Nat) (w : World) (v : Value) (l : List Opn) : Prop :=
  ∃ (A : Option Addr) (cap : Nat), v = .slice A l.length cap ∧ l.length ≤ cap ∧ cap ≤ maxLen ∧
    (0 < l.length → ∃ b o, A = some ⟨b, o, none⟩ ∧ b < B ∧ ∀ k p, l[k]? = some p → OpCells w b (o + k * 9) p) ∧ (∀ p ∈ l, OpOk B w p) ∧ l.length * 136 ≤ 140737488355328
theorem Ops.below {B : Nat} {w w' : World} {v : Value} {l : List Opn} (h : Ops B w v l) (hb : Below B w w') : Ops B w' v l := by
  obtain ⟨A, cap, rfl, h1, h2, h3, h4, h5⟩ := h
  refine ⟨A, cap, rfl, h1, h2, fun h0 => ?_, fun p hp => (h4 p hp).below hb, h5⟩
  obtain ⟨b, o, rfl, hl, hc⟩ := h3 h0
  exact ⟨b, o, rfl, hl, fun k p hp => (hc k p hp).keep (hb.block b hl)⟩
theorem Ops.shape {B : Nat} {w : World} {v : Value} {l : List Opn} (h : Ops B w v l) : ∃ A c, v = .slice A l.length c := by
  obtain ⟨A, cap, e, _⟩ := h
  exact ⟨A, cap, e⟩
theorem Ops.len {B : Nat} {w : World} {v : Value} {l : List Opn} (h : Ops B w v l) : l.length * 136 ≤ 140737488355328 := by
  obtain ⟨A, cap, e, h1, h2, h3, h4, h5⟩ := h
  exact h5
theorem Ops.at {B : Nat} {w : World} {A : Option Addr} {n c : Nat} {l : List Opn} (h : Ops B w (.slice A n c) l) {k : Nat} {p : Opn} (hk : l[k]? = some p) : ∃ b o, A = some ⟨b, o, none⟩ ∧ OpCells w b (o + k * 9) p ∧ OpOk B w p := by
  obtain ⟨A', cap, e, h1, h2, h3, h4, h5⟩ := h
  cases e
  have := (List.getElem?_eq_some_iff.1 hk).1
  obtain ⟨b, o, e, _, hc⟩ := h3 (by omega)
  exact ⟨b, o, e, hc k p hk, h4 p (List.mem_of_getElem? hk)⟩

/-- Whether an operation is bounded; whether a script is. -/
def okOp (p : Opn) : Bool := decide (p.l1.length ≤ 60) && decide (p.l2.length ≤ 60) && decide ((p.l1.map (·.a)).Nodup) && decide ((p.l2.map (·.a)).Nodup)
def bndB (l : List Opn) : Bool := decide (l.length ≤ 60) && l.all okOp

theorem bndB_no {l : List Opn} {k : Nat} {p : Opn} (hp : l[k]? = some p) (h : okOp p = false) : bndB l = false := by
  have : l.all okOp = false := List.all_eq_false.2 ⟨p, List.mem_of_getElem? hp, by simp [h]⟩
  simp [bndB, this]
theorem bndB_yes {l : List Opn} (h0 : l.length ≤ 60) (h : ∀ (k : Nat) (p : Opn), l[k]? = some p → okOp p = true) : bndB l = true := by
  have : l.all okOp = true := List.all_eq_true.2 fun p hp => by
    obtain ⟨k, hk⟩ := List.getElem?_of_mem hp
    exact h k p hk
  simp [bndB, this, h0]

set_option maxHeartbeats 2000000 in
theorem bounded_any (B : Nat) (w : World) (n m : Int) (v : Value) (l : List Opn) (h : Ops B w v l) (hB : B ≤ w.heap.size) :
    Calls Try.prog 23 #[.agg #[.int .i64 n, .int .i64 m, v]] w fun e w' => e = .returned (.bool (bndB l)) ∧ Below w.heap.size w w' := by
  obtain ⟨A, c, rfl⟩ := h.shape
  have hlen := h.len
  have H := Lib.hid h
  have BX := Lib.hid (show Below w.heap.size w (w.alloc (.cells #[.int .i64 n, .int .i64 m, .slice A l.length c] 41)) from (Below.refl _ _).alloc (Nat.le_refl _) _)
  have HX := Lib.hid (new0 w (.cells #[.int .i64 n, .int .i64 m, .slice A l.length c] 41))
  clear h
  by_cases hbig : 60 < l.length
  · have HF := Lib.hid (show bndB l = false by simp [bndB]; omega)
    go_enter Try.func23, Try.ntmps23
    go_wp2_with fail
    go_ret
    exact ⟨by rw [HF.out]; rfl, BX.out⟩
  · go_enter Try.func23, Try.ntmps23
    go_wp2_with fail
    go_loopw [3] (fun i wr => ∃ k : Nat, k ≤ l.length ∧ i = .int .i64 k ∧ (∀ j p, j < k → l[j]? = some p → okOp p = true) ∧ wr.heap[w.heap.size]? = some (.cells #[.int .i64 n, .int .i64 m, .slice A l.length c] 41) ∧ Below w.heap.size w wr) (fun i _ => l.length - (intOf i).toNat)
    case atStart => exact ⟨0, Nat.zero_le _, rfl, (fun j p hj => by omega), HX.out, BX.out⟩
    case round =>
      obtain ⟨k, hk, rfl, hgood, hx, hb⟩ := hrel
      have HG := Lib.hid hgood
      have HBW := Lib.hid hb
      have hsz := hb.size
      have hxl := heap_lt hx
      have cx := cellsH hx
      have XB := Lib.hid hx
      clear hgood hx
      by_cases hlt : k < l.length
      · obtain ⟨p, hp⟩ : ∃ p, l[k]? = some p := ⟨_, List.getElem?_eq_getElem hlt⟩
        obtain ⟨b, o, rfl, hat, hok⟩ := (H.out.below (hb.mono hB)).at hp
        obtain ⟨d0, d1, d2, d3, d4, d5, d6, d7, d8⟩ := hat
        have HP := Lib.hid hp
        have HOK := Lib.hid hok
        clear hp hok hb
        go_upto_region 7 with (fail)
        have rA := new0 wr (.cells p.arr 85)
        have bA : Below wr.heap.size wr (wr.alloc (.cells p.arr 85)) := (Below.refl _ _).alloc (Nat.le_refl _) _
        have RA := Lib.hid rA
        have BA := Lib.hid (below_then HBW.out hsz bA)
        have xA := old1 XB.out (.cells p.arr 85)
        have XA := Lib.hid xA
        have OKA := Lib.hid (HOK.out.below (bA.mono (by omega)))
        have cA := cellsH rA
        have zA : (wr.alloc (.cells p.arr 85)).heap.size = wr.heap.size + 1 := by simp
        clear rA bA xA d0 d1 d2 d3 d4 d5 d6 d7 d8 cx
        generalize wr.alloc (.cells p.arr 85) = wA at *
        by_cases a1 : 60 < p.l1.length
        · have HF := Lib.hid (bndB_no HP.out (show okOp p = false by simp [okOp]; omega))
          go_wp2_with fail
          go_ret
          exact ⟨by rw [HF.out]; rfl, BA.out⟩
        by_cases a2 : 60 < p.l2.length
        · have HF := Lib.hid (bndB_no HP.out (show okOp p = false by simp [okOp]; omega))
          go_wp2_with fail
          go_ret
          exact ⟨by rw [HF.out]; rfl, BA.out⟩
        go_wp2_with fail
        refine (distinct_any _ _ _ p.l1 OKA.out.n).mono ?_
        rintro e w2 ⟨rfl, n2, rfl⟩
        by_cases q1 : (p.l1.map (·.a)).Nodup
        · rw [decide_eq_true q1]
          have Q1 := Lib.hid q1
          clear q1
          have cB : ∀ i, (wA.drewN n2).cell? ⟨wr.heap.size, i, none⟩ = p.arr[i]? := cA
          have XA2 := Lib.hid (show (wA.drewN n2).heap[w.heap.size]? = _ from XA.out)
          have BA2 := Lib.hid (below_drewN BA.out n2)
          have OKA2 := Lib.hid (OKA.out.below (below_drewN (Below.refl B wA) n2))
          clear cA XA BA OKA RA
          have zA2 : (wA.drewN n2).heap.size = wr.heap.size + 1 := zA
          generalize wA.drewN n2 = wB at *
          go_wp2_with fail
          refine (distinct_any _ _ _ p.l2 OKA2.out.l).mono ?_
          rintro e w2 ⟨rfl, n3, rfl⟩
          by_cases q2 : (p.l2.map (·.a)).Nodup
          · rw [decide_eq_true q2]
            have Q2 := Lib.hid q2
            clear q2
            go_wp2_with fail
            go_roundw
            case rel =>
              refine ⟨k + 1, by omega, by go_num, ?_, XA2.out, below_drewN BA2.out n3⟩
              intro j q hj hq
              by_cases hjk : j = k
              · subst hjk
                rw [HP.out] at hq
                cases hq
                simp [okOp, Q1.out, Q2.out]
                omega
              · exact HG.out j q (by omega) hq
            case measure => simp [intOf]; omega
          · have HF := Lib.hid (bndB_no HP.out (show okOp p = false by simp [okOp, q2]))
            rw [decide_eq_false q2]
            clear q2
            go_wp2_with fail
            go_ret
            exact ⟨by rw [HF.out]; rfl, below_drewN BA2.out n3⟩
        · have HF := Lib.hid (bndB_no HP.out (show okOp p = false by simp [okOp, q1]))
          rw [decide_eq_false q1]
          clear q1
          go_wp2_with fail
          go_ret
          exact ⟨by rw [HF.out]; rfl, below_drewN BA.out n2⟩
      · have he : k = l.length := by omega
        have HT := Lib.hid (bndB_yes (l := l) (by omega) (fun j p hp => HG.out j p (by have := (List.getElem?_eq_some_iff.1 hp).1; omega) hp))
        clear he hb
        go_wp2_with fail
        go_ret
        exact ⟨by rw [HT.out]; rfl, HBW.out⟩
end Go.Proofs.Ytobniolmielikaa

/- The contract of the heap's Replace, of maps whose objects lie in given blocks; no condition. -/
namespace Go.Proofs.Ytobniolmielikaa
open Go.RowKit

set_option maxHeartbeats 4000000 in
theorem replaceO_any (ok : Nat → Prop) (w : World) (h y a b1 b2 : Nat) (H : HM) (m1 m2 : List (Int × Ob)) (hh : HeapAt w h y a H) (hb1 : ObjMapO ok w b1 m1) (hb2 : ObjMapO ok w b2 m2) (hok1 : ∀ k, ok k → k < w.heap.size) (hok2 : ∀ k, ok k → ¬ HB h y a k) (n1 : b1 ≠ y) (n2 : b1 ≠ a) (n3 : b2 ≠ y) (n4 : b2 ≠ a) :
    Calls Try.prog 31 #[.pointer (some ⟨h, 0, none⟩), .map (some b1), .map (some b2)] w fun e w' => e = .returned (.int .i64 (H.repl m1 m2)) ∧ ∃ H', HeapAt w' h y a H' ∧ Repl H m1 m2 H' ∧ Turn (HB h y a) w w' := by
  obtain ⟨hl1, hl2, hl3⟩ := hh.lt
  obtain ⟨c0, c1, c2, c3, c4⟩ := hh.cells
  have M := Lib.hid (made_any h y w c0)
  have HH := Lib.hid hh
  have OK1 := Lib.hid hok1
  have OK2 := Lib.hid hok2
  have B1 := Lib.hid hb1
  have B2 := Lib.hid hb2
  have NO := Lib.hid (show ∀ w', Below w.heap.size w w' → H.repl m1 m2 ≠ 0 → ∃ H', HeapAt w' h y a H' ∧ Repl H m1 m2 H' ∧ Turn (HB h y a) w w' from fun w' hb hne => ⟨H, HH.out.fresh hb, ⟨fun _ => rfl, fun e => absurd e hne⟩, below_turn hb _⟩)
  clear hh hb1 hb2 hok1 hok2 c0 c1 c2 c3 c4
  go_enter Try.func31, Try.ntmps31
  go_wp2_with fail
  refine M.out.mono ?_
  rintro e w1 ⟨rfl, rfl⟩
  go_wp2_with fail
  refine (fitsO_any ok _ b1 m1 B1.out OK1.out).mono ?_
  rintro e w2 ⟨rfl, hb⟩
  have HB2 := Lib.hid hb
  clear hb
  cases f1 : fitB m1 with
  | false =>
    have HF := Lib.hid (show H.repl m1 m2 = 1 by simp [HM.repl, f1])
    clear f1
    go_wp2_with fail
    go_ret
    exact ⟨by rw [HF.out]; rfl, NO.out _ HB2.out (by rw [HF.out]; decide)⟩
  | true =>
    have F1 := Lib.hid f1
    clear f1
    go_wp2_with fail
    refine (fitsO_any ok _ b2 m2 (B2.out.fresh HB2.out) (fun k hk => by have := OK1.out k hk; have := HB2.out.size; omega)).mono ?_
    rintro e w3 ⟨rfl, hb⟩
    have HB3 := Lib.hid (below_then HB2.out HB2.out.size hb)
    clear hb HB2
    cases f2 : fitB m2 with
    | false =>
      have HF := Lib.hid (show H.repl m1 m2 = 1 by simp [HM.repl, f2])
      clear f2
      go_wp2_with fail
      go_ret
      exact ⟨by rw [HF.out]; rfl, NO.out _ HB3.out (by rw [HF.out]; decide)⟩
    | true =>
      have F2 := Lib.hid f2
      clear f2
      obtain ⟨wi, hrun, hit, hwb, hws⟩ := ob_rangeO (B1.out.fresh HB3.out)
      have hsz3 := HB3.out.size
      have HIT := Lib.hid hit
      have HWB := Lib.hid (below_then HB3.out HB3.out.size hwb)
      clear hit hwb hws HB3
      go_wp2_with fail
      clear hrun
      go_loopg [] m1.length (fun g W => ∃ done todo : List (Int × Ob), g = todo.length ∧ (done ++ todo).Perm m1 ∧ meets done m2 = false ∧ ObIterO ok W w3.heap.size b1 m1 todo ∧ Below w1.heap.size w1 W)
      case atStart => exact ⟨[], m1, rfl, .refl _, rfl, HIT.out, HWB.out⟩
      case round =>
        obtain ⟨done, todo, rfl, hp, hd, hit, hb⟩ := hrel
        rcases ob_nextO hit (fun k hk e => by have := OK1.out k hk; have := hsz3; omega) 0 with ⟨h0, hrun⟩ | ⟨i, x, o, ra, wa, rc, wc, w', h1, hob, hrun, hit', ht, hs, hentry⟩
        · subst h0
          have hm := meets_perm (m2 := m2) hp
          rw [List.append_nil, hd] at hm
          have HMT := Lib.hid hm.symm
          have HB := Lib.hid hb
          clear hp hd hit hb hm
          have hh1 := HH.out.fresh HB.out
          have hob1 := B1.out.fresh HB.out
          have hob2 := B2.out.fresh HB.out
          obtain ⟨c0, c1, c2, c3, c4⟩ := hh1.cells
          have HH1 := Lib.hid hh1
          have O1 := Lib.hid hob1
          have O2 := Lib.hid hob2
          obtain ⟨l1, hma1, hk1⟩ := hob1
          obtain ⟨l2, hma2, hk2⟩ := hob2
          have hlen1 := fun n ty => run_len_map (P := Try.prog) (k := 3) (e := 25) Try.underlying52 (hma1.drewN n) ty
          have hlen10 := fun ty => run_len_map (P := Try.prog) (k := 3) (e := 25) Try.underlying52 hma1 ty
          have hlen2 := fun n ty => run_len_map (P := Try.prog) (k := 3) (e := 25) Try.underlying52 (hma2.drewN n) ty
          have hlen20 := fun ty => run_len_map (P := Try.prog) (k := 3) (e := 25) Try.underlying52 hma2 ty
          simp only [hk1.length] at hlen1 hlen10
          simp only [hk2.length] at hlen2 hlen20
          clear hk1 hk2 hma1 hma2 hh1
          by_cases t1 : H.nur < m1.length
          · have HF := Lib.hid (show H.repl m1 m2 = 33 by simp [HM.repl, F1.out, F2.out, HMT.out, t1])
            go_upto_region 11 with (fail)
            go_quiet (fail)
            go_wp2_with fail
            go_ret
            exact ⟨by rw [HF.out]; rfl, NO.out _ (below_drewN HB.out _) (by rw [HF.out]; decide)⟩
          · by_cases t2 : H.eld < m2.length
            · have HF := Lib.hid (show H.repl m1 m2 = 33 by simp [HM.repl, F1.out, F2.out, HMT.out, t2])
              go_upto_region 11 with (fail)
              go_quiet (fail)
              go_wp2_with fail
              go_ret
              exact ⟨by rw [HF.out]; rfl, NO.out _ (below_drewN HB.out _) (by rw [HF.out]; decide)⟩
            · have HF := Lib.hid (show H.repl m1 m2 = 0 by simp [HM.repl, F1.out, F2.out, HMT.out]; omega)
              have K1 := Lib.hid (fitB_keys F1.out)
              have K2 := Lib.hid (fitB_keys F2.out)
              have X := Lib.hid (show max (nxt m1) (max (nxt m2) 0) = max (nxt m1) (max (nxt m2) 0) from rfl)
              go_upto_region 11 with (fail)
              go_quiet (fail)
              go_upto_region 13 with (fail)
              have HHn := Lib.hid (HH1.out.drewN nq)
              have O1n := Lib.hid (show ObjMapO ok (wr.drewN nq) b1 m1 from O1.out)
              have O2n := Lib.hid (show ObjMapO ok (wr.drewN nq) b2 m2 from O2.out)
              have HBn := Lib.hid (below_drewN HB.out nq)
              clear HH1 O1 O2 HB hlen1 hlen2 hlen10 hlen20 c2 c3
              have d0 : (wr.drewN nq).cell? ⟨h, 0, none⟩ = some (.map (some y)) := c0
              have d1 : (wr.drewN nq).cell? ⟨h, 1, none⟩ = some (.map (some a)) := c1
              have d4 : (wr.drewN nq).cell? ⟨h, 4, none⟩ = some (.int .i64 H.next) := c4
              clear c0 c1 c4
              have hszn := HBn.out.size
              generalize wr.drewN nq = wn at *
              go_region_with (first
                | (go_at_call_of 65 (Value.map (some b1)); refine (refillO_any ok _ y b1 H.ly m1 HHn.out.drew.young (O1n.out.fresh (Below.refl _ _).drew) (fun k hk => by have := OK1.out k hk; show k < wn.heap.size; omega) (fun k hk e => OK2.out k hk (.inr (.inl e))) (by omega) K1.out).mono ?_; rintro e w5 ⟨rfl, ly, hpy, hmy, hty⟩; have HPY := Lib.hid hpy; have HN5 := Lib.hid (HeapAt.reYoung HHn.out.drew hty hmy); have O25 := Lib.hid (ObjMapO.turn (O2n.out.fresh (Below.refl _ _).drew) hty n3 (fun k hk e => OK2.out k hk (.inr (.inl e)))); have T5 := Lib.hid ((below_turn HBn.out.drew (HB h y a)).under hty (fun k _ e => .inr (.inl e))); have hs5 : wn.heap.size ≤ w5.heap.size := hty.size; obtain ⟨e0, e1, -, -, e4⟩ := HN5.out.cells; clear hpy hmy hty)
                | (go_at_call 65; refine (refillO_any ok _ a b2 H.la m2 HN5.out.old O25.out (fun k hk => by have := OK1.out k hk; omega) (fun k hk e => OK2.out k hk (.inr (.inr e))) (by omega) K2.out).mono ?_; rintro e w6 ⟨rfl, la, hpa, hma, hta⟩; have HPA := Lib.hid hpa; have HN6 := Lib.hid (HeapAt.reOld HN5.out hta hma); have T6 := Lib.hid (T5.out.under hta (fun k _ e => .inr (.inr e))); obtain ⟨i0, i1, -, -, i4⟩ := HN6.out.cells; have hf6 := freeH HN6.out.row; clear hpa hma hta))
              all_goals go_wp2_with fail
              all_goals go_ret
              all_goals exact ⟨by rw [HF.out]; rfl, _, HN6.out.setNext _, ⟨fun e => absurd HF.out e, fun _ => ⟨rfl, rfl, HPY.out, HPA.out, by dsimp only; first | omega | (simp only [*]; omega) | (split at * <;> omega)⟩⟩, T6.out.setCell (.inl rfl) _⟩
        · have hmem : (x, o) ∈ m1 := hp.mem_iff.1 (List.mem_append_right _ (List.mem_of_getElem? h1))
          have hb' : Below w1.heap.size w1 w' := hb.trans (ht.below (by have := hb.size; omega) (fun k e => by omega))
          have hp' : ((done ++ [(x, o)]) ++ todo.eraseIdx i).Perm m1 := by
            rw [List.append_assoc]
            exact ((perm_erase todo i _ h1).append_left done).trans hp
          have hlen : (todo.eraseIdx i).length < todo.length := by
            have := (List.getElem?_eq_some_iff.1 h1).1
            rw [List.length_eraseIdx_of_lt this]; omega
          have HMEM := Lib.hid hmem
          have HP := Lib.hid hp'
          have HD := Lib.hid hd
          have HB := Lib.hid hb'
          have HI := Lib.hid hit'
          have hsz := hb'.size
          obtain ⟨la, hma, hka⟩ := B2.out.fresh hb'
          have la0 := run_lookup_map (P := Try.prog) (t := 52) (k := 3) (e := 25) Try.underlying52 Try.underlying3 (zero25 _) hma x true
          clear hmem hp hp' hd hb hb' hit hit' hob h1 ht
          rcases hka.get x with ⟨g3, g4⟩ | ⟨v, o2, g3, g4, hv⟩
          · have HG := Lib.hid g4
            simp only [g3, Option.getD_none, Option.isSome_none] at la0
            clear hma hka g3 g4
            go_wp2_with fail
            go_roundg (todo.eraseIdx i).length
            case measure => exact hlen
            case rel =>
              refine ⟨done ++ [(x, o)], todo.eraseIdx i, rfl, HP.out, ?_, HI.out.fresh ((Below.refl _ _).alloc (Nat.le_refl _) _), HB.out.alloc (by omega) _⟩
              have := HD.out
              simp only [meets, List.any_append, Bool.or_eq_false_iff] at this ⊢
              exact ⟨this, by simp [HG.out]⟩
          · obtain ⟨ra2, rc2, wa2, wc2, rfl⟩ := hv.open
            have HF := Lib.hid (show H.repl m1 m2 = 1 by
              have : meets m1 m2 = true := List.any_eq_true.2 ⟨_, HMEM.out, by simp [g4]⟩
              simp [HM.repl, this])
            simp only [g3, Option.getD_some, Option.isSome_some] at la0
            clear hma hka g3 g4 hv
            go_wp2_with fail
            go_ret
            exact ⟨by rw [HF.out]; rfl, NO.out _ (HB.out.alloc (by omega) _) (by rw [HF.out]; decide)⟩
end Go.Proofs.Ytobniolmielikaa

/- The two heaps side by side in memory; no condition. -/
namespace Go.Proofs.Ytobniolmielikaa
open Go.RowKit

/-- Both heaps, in blocks from B on. -/
structure Two (B : Nat) (w : World) (h y a r : Nat) (NV AV : Value) (H : HM) (R : RM) : Prop where
  p : HeapAt w h y a H
  q : RHeapAt B w r NV AV R
  bh : B ≤ h
  bY : B ≤ y
  ba : B ≤ a
  br : B ≤ r
theorem Two.rows {B : Nat} {w : World} {h y a r : Nat} {NV AV : Value} {H : HM} {R : RM} (t : Two B w h y a r NV AV H R) : (¬ HB h y a r) ∧ (∀ g, B ≤ g → IsRow 97 w g → ¬ HB h y a g) ∧ (¬ RB r NV AV h) ∧ (¬ RB r NV AV y) ∧ (¬ RB r NV AV a) := by
  have hrow : IsRow 54 w h := ⟨_, _, t.p.row⟩
  have rrow : IsRow 92 w r := ⟨_, _, t.q.row⟩
  have ny : ∀ T, ¬ IsRow T w y := by
    rintro T ⟨cs, f, h2⟩
    obtain ⟨l, ⟨es, c, h1, _⟩, _⟩ := t.p.young
    rw [h1] at h2
    simp at h2
  have na : ∀ T, ¬ IsRow T w a := by
    rintro T ⟨cs, f, h2⟩
    obtain ⟨l, ⟨es, c, h1, _⟩, _⟩ := t.p.old
    rw [h1] at h2
    simp at h2
  refine ⟨?_, ?_, ?_, ?_, ?_⟩
  · rintro (e | e | e)
    · rw [e] at rrow; cases rrow.two hrow
    · rw [e] at rrow; exact ny _ rrow
    · rw [e] at rrow; exact na _ rrow
  · rintro g _ hg (e | e | e)
    · rw [e] at hg; cases hg.two hrow
    · rw [e] at hg; exact ny _ hg
    · rw [e] at hg; exact na _ hg
  · rintro (e | e | e)
    · rw [← e] at rrow; cases rrow.two hrow
    · cases (t.q.nown.row e).2.two hrow
    · cases (t.q.aown.row e).2.two hrow
  · rintro (e | e | e)
    · rw [← e] at rrow; exact ny _ rrow
    · exact ny _ (t.q.nown.row e).2
    · exact ny _ (t.q.aown.row e).2
  · rintro (e | e | e)
    · rw [← e] at rrow; exact na _ rrow
    · exact na _ (t.q.nown.row e).2
    · exact na _ (t.q.aown.row e).2
theorem Two.prog {B : Nat} {w w' : World} {h y a r : Nat} {NV AV : Value} {H H' : HM} {R : RM} (t : Two B w h y a r NV AV H R) (ht : Turn (HB h y a) w w') (hp : HeapAt w' h y a H') : Two B w' h y a r NV AV H' R :=
  ⟨hp, t.q.turn ht t.rows.1 t.rows.2.1 t.p.notRow, t.bh, t.bY, t.ba, t.br⟩
theorem Two.ref {B : Nat} {w w' : World} {h y a r : Nat} {NV AV NV' AV' : Value} {H : HM} {R R' : RM} (t : Two B w h y a r NV AV H R) (ht : Turn (RB r NV AV) w w') (hq : RHeapAt B w' r NV' AV' R') : Two B w' h y a r NV' AV' H R' :=
  ⟨t.p.turn ht t.rows.2.2.1 t.rows.2.2.2.1 t.rows.2.2.2.2 t.q.notRB3, hq, t.bh, t.bY, t.ba, t.br⟩
theorem Two.fresh {B : Nat} {w w' : World} {h y a r : Nat} {NV AV : Value} {H : HM} {R : RM} (t : Two B w h y a r NV AV H R) (hb : Below w.heap.size w w') : Two B w' h y a r NV AV H R :=
  ⟨t.p.fresh hb, t.q.fresh hb, t.bh, t.bY, t.ba, t.br⟩
theorem Two.lt {B : Nat} {w : World} {h y a r : Nat} {NV AV : Value} {H : HM} {R : RM} (t : Two B w h y a r NV AV H R) : h < w.heap.size ∧ y < w.heap.size ∧ a < w.heap.size ∧ r < w.heap.size := ⟨t.p.lt.1, t.p.lt.2.1, t.p.lt.2.2, t.q.lt⟩
theorem Two.pb {B : Nat} {w w' : World} {h y a r : Nat} {NV AV : Value} {H : HM} {R : RM} (t : Two B w h y a r NV AV H R) (ht : Turn (HB h y a) w w') (hB : B ≤ w.heap.size) : Below B w w' :=
  ht.below hB (by
    rintro k (rfl | rfl | rfl)
    · exact t.bh
    · exact t.bY
    · exact t.ba)
theorem Two.rb {B : Nat} {w w' : World} {h y a r : Nat} {NV AV : Value} {H : HM} {R : RM} (t : Two B w h y a r NV AV H R) (ht : Turn (RB r NV AV) w w') (hB : B ≤ w.heap.size) : Below B w w' :=
  ht.below hB (by
    rintro k (rfl | e | e)
    · exact t.br
    · exact (t.q.nown.lt k e).1
    · exact (t.q.aown.lt k e).1)
/-- A block that is none of the heaps' own, of another type. -/
theorem Two.keepP {B : Nat} {w w' : World} {h y a r g : Nat} {NV AV : Value} {H : HM} {R : RM} (t : Two B w h y a r NV AV H R) (ht : Turn (HB h y a) w w') {cs : Array Value} {T : TypeId} (hg : w.heap[g]? = some (.cells cs T)) (hT : T ≠ 54) : w'.heap[g]? = some (.cells cs T) := by
  refine rowT ht hg ?_
  rintro (e | e | e)
  · subst e
    have := IsRow.two (show IsRow T w g from ⟨_, _, hg⟩) ⟨_, _, t.p.row⟩
    exact hT this
  · subst e
    obtain ⟨l, ⟨es, c, h1, _⟩, _⟩ := t.p.young
    rw [h1] at hg
    simp at hg
  · subst e
    obtain ⟨l, ⟨es, c, h1, _⟩, _⟩ := t.p.old
    rw [h1] at hg
    simp at hg
theorem Two.keepR {B : Nat} {w w' : World} {h y a r g : Nat} {NV AV : Value} {H : HM} {R : RM} (t : Two B w h y a r NV AV H R) (ht : Turn (RB r NV AV) w w') {cs : Array Value} {T : TypeId} (hg : w.heap[g]? = some (.cells cs T)) (hT : T ≠ 92) (hT2 : T ≠ 97) : w'.heap[g]? = some (.cells cs T) := by
  refine rowT ht hg ?_
  rintro (e | e | e)
  · subst e
    exact hT (IsRow.two (show IsRow T w g from ⟨_, _, hg⟩) ⟨_, _, t.q.row⟩)
  · exact hT2 (IsRow.two (show IsRow T w g from ⟨_, _, hg⟩) (t.q.nown.row e).2)
  · exact hT2 (IsRow.two (show IsRow T w g from ⟨_, _, hg⟩) (t.q.aown.row e).2)
theorem rget_abs (R : RM) (k : Int) : R.get k = R.abs.get k := by
  unfold RM.get HM.get RM.abs
  dsimp only
  rw [get_abs, get_abs]
  cases Go.Proofs.Ytobniolmielikaa.get (keyed R.n) k with
  | some x => rfl
  | none =>
    cases Go.Proofs.Ytobniolmielikaa.get (keyed R.a) k with
    | some x => rfl
    | none => rfl
end Go.Proofs.Ytobniolmielikaa

/- The law's helper apply; no condition. -/
namespace Go.Proofs.Ytobniolmielikaa
open Go.RowKit

/-- What is known behind an operation. -/
def Applied (B k : Nat) (e : Ending) (w' : World) : Prop := ∃ h' y' a' r' NV' AV' H' R', e = .returned (.tuple #[.pointer (some ⟨h', 0, none⟩), .pointer (some ⟨r', 0, none⟩), .bool true]) ∧ Two B w' h' y' a' r' NV' AV' H' R' ∧ Rel (k + 1) H' R'.abs

theorem opCells9 {w : World} {g : Nat} {p : Opn} (h : w.heap[g]? = some (.cells p.arr 85)) :
    w.cell? ⟨g, 0, none⟩ = some (.int .i64 p.kind) ∧ w.cell? ⟨g, 1, none⟩ = some (.int .i64 p.addr) ∧ w.cell? ⟨g, 2, none⟩ = some (.int .i64 p.o.op) ∧ w.cell? ⟨g, 3, none⟩ = some (.int .i64 p.o.n) ∧ w.cell? ⟨g, 4, none⟩ = some (.int .i64 p.o.ar) ∧
    w.cell? ⟨g, 5, none⟩ = some (.slice p.ra p.o.refs.length p.rc) ∧ w.cell? ⟨g, 6, none⟩ = some (.slice p.wa p.o.words.length p.wc) ∧ w.cell? ⟨g, 7, none⟩ = some (.slice p.na p.l1.length p.nc) ∧ w.cell? ⟨g, 8, none⟩ = some (.slice p.oa p.l2.length p.oc) :=
  ⟨row_cells h 0 _ rfl, row_cells h 1 _ rfl, row_cells h 2 _ rfl, row_cells h 3 _ rfl, row_cells h 4 _ rfl, row_cells h 5 _ rfl, row_cells h 6 _ rfl, row_cells h 7 _ rfl, row_cells h 8 _ rfl⟩

set_option maxHeartbeats 4000000 in
theorem apply_alloc (B k : Nat) (w : World) (h y a r : Nat) (NV AV : Value) (H : HM) (R : RM) (p : Opn) (t : Two B w h y a r NV AV H R) (hr : Rel k H R.abs) (hk : k ≤ 100) (hop : OpOk B w p) (hB : B ≤ w.heap.size) (hkd : p.kind = 0) :
    Calls Try.prog 57 #[.pointer (some ⟨h, 0, none⟩), .pointer (some ⟨r, 0, none⟩), .agg p.arr] w fun e w' => Applied B k e w' ∧ Below B w w' := by
  obtain ⟨l1, l2, l3, l4⟩ := t.lt
  have b0 : Below w.heap.size w (w.alloc (.cells p.arr 85)) := (Below.refl _ _).alloc (Nat.le_refl _) _
  have T0 := Lib.hid (t.fresh b0)
  have B0 := Lib.hid (b0.mono hB)
  have OP0 := Lib.hid (hop.below (b0.mono hB))
  have x0 := new0 w (.cells p.arr 85)
  have X0 := Lib.hid x0
  have c0 := cellsH x0
  have HR := Lib.hid hr
  have s0 : R.s0 ≤ 65536 := by have := hr.n2; have := hr.nur; simp only [RM.abs] at this; omega
  have s1 : R.s1 ≤ 65536 := by have := hr.e2; have := hr.eld; simp only [RM.abs] at this; omega
  have n0 : 0 ≤ R.next ∧ R.next < 9223372036854775807 := by have := hr.next; have := hr.lo; have := hr.hi; simp only [RM.abs] at *; omega
  have S0 := Lib.hid s0
  have S1 := Lib.hid s1
  have N0 := Lib.hid n0
  have z0 := B0.out.size
  clear t hop b0 x0 hr s0 s1 n0
  go_enter Try.func57, Try.ntmps57
  go_upto_region 3 with (fail)
  rw [hkd] at *
  go_wp2_with fail
  refine (alloc_any (· < B) _ h y a H _ p.o T0.out.p OP0.out.ob).mono ?_
  rintro e w1 ⟨rfl, hh1, ht1⟩
  have T1 := Lib.hid (T0.out.prog ht1 hh1)
  have B1 := Lib.hid (B0.out.trans (T0.out.pb ht1 (by omega)))
  have OP1 := Lib.hid (OP0.out.below (T0.out.pb ht1 (by omega)))
  have x1 := T0.out.keepP ht1 X0.out (by decide)
  have c1 := cellsH x1
  have X1 := Lib.hid x1
  have z1 := B1.out.size
  clear hh1 ht1 c0 x1
  go_wp2_with fail
  refine (ralloc_any B (· < B) _ r NV AV R _ p.o T1.out.q (by omega) S0.out N0.out OP1.out.ob).mono ?_
  rintro e w2 ⟨rfl, NV', R', hq, hab, ht2⟩
  obtain ⟨e1, e2, e3⟩ := rel_alloc HR.out hk p.o
  rw [← hab] at e3
  rw [← e1, ← e2]
  have T2 := Lib.hid (T1.out.ref ht2 hq)
  have B2 := Lib.hid (B1.out.trans (T1.out.rb ht2 (by omega)))
  have R2 := Lib.hid e3
  clear hq hab ht2 e1 e2 e3 c1
  go_wp2_with fail
  go_ret3
  exact ⟨⟨h, y, a, r, _, _, _, _, rfl, T2.out, R2.out⟩, B2.out⟩
set_option maxHeartbeats 4000000 in
theorem apply_get (B k : Nat) (w : World) (h y a r : Nat) (NV AV : Value) (H : HM) (R : RM) (p : Opn) (t : Two B w h y a r NV AV H R) (hr : Rel k H R.abs) (hk : k ≤ 100) (hop : OpOk B w p) (hB : B ≤ w.heap.size) (hkd : p.kind = 1) :
    Calls Try.prog 57 #[.pointer (some ⟨h, 0, none⟩), .pointer (some ⟨r, 0, none⟩), .agg p.arr] w fun e w' => Applied B k e w' ∧ Below B w w' := by
  obtain ⟨l1, l2, l3, l4⟩ := t.lt
  have b0 : Below w.heap.size w (w.alloc (.cells p.arr 85)) := (Below.refl _ _).alloc (Nat.le_refl _) _
  have T0 := Lib.hid (t.fresh b0)
  have B0 := Lib.hid (b0.mono hB)
  have OP0 := Lib.hid (hop.below (b0.mono hB))
  have x0 := new0 w (.cells p.arr 85)
  have X0 := Lib.hid x0
  have c0 := cellsH x0
  have HR := Lib.hid hr
  have s0 : R.s0 ≤ 65536 := by have := hr.n2; have := hr.nur; simp only [RM.abs] at this; omega
  have s1 : R.s1 ≤ 65536 := by have := hr.e2; have := hr.eld; simp only [RM.abs] at this; omega
  have n0 : 0 ≤ R.next ∧ R.next < 9223372036854775807 := by have := hr.next; have := hr.lo; have := hr.hi; simp only [RM.abs] at *; omega
  have S0 := Lib.hid s0
  have S1 := Lib.hid s1
  have N0 := Lib.hid n0
  have z0 := B0.out.size
  clear t hop b0 x0 hr s0 s1 n0
  go_enter Try.func57, Try.ntmps57
  go_upto_region 7 with (fail)
  rw [hkd] at *
  go_wp2_with fail
  refine (get_any _ h y a H p.addr T0.out.p).mono ?_
  rintro e w1 ⟨v1, rfl, hv1, hb1⟩
  obtain ⟨ra1, rc1, wa1, wc1, rfl⟩ := hv1.open
  have T1 := Lib.hid (T0.out.fresh hb1)
  have B1 := Lib.hid (below_then B0.out (by omega) hb1)
  have x1 := rowB hb1 X0.out (heap_lt X0.out)
  have X1 := Lib.hid x1
  have V1 := Lib.hid hv1
  have z1 := B1.out.size
  have c1 := cellsH (old1 x1 (.cells #[.int .i64 (H.get p.addr).1.op, .int .i64 (H.get p.addr).1.n, .int .i64 (H.get p.addr).1.ar, .slice ra1 (H.get p.addr).1.refs.length rc1, .slice wa1 (H.get p.addr).1.words.length wc1] 25))
  clear hb1 c0 x1 hv1
  go_wp2_with fail
  have bz : Below w1.heap.size w1 (w1.alloc (.cells #[.int .i64 (H.get p.addr).1.op, .int .i64 (H.get p.addr).1.n, .int .i64 (H.get p.addr).1.ar, .slice ra1 (H.get p.addr).1.refs.length rc1, .slice wa1 (H.get p.addr).1.words.length wc1] 25)) := (Below.refl _ _).alloc (Nat.le_refl _) _
  have T1z := Lib.hid (T1.out.fresh bz)
  have B1z := Lib.hid (below_then B1.out (by omega) bz)
  have V1z := Lib.hid (V1.out.fresh bz)
  have y1 := new0 w1 (.cells #[.int .i64 (H.get p.addr).1.op, .int .i64 (H.get p.addr).1.n, .int .i64 (H.get p.addr).1.ar, .slice ra1 (H.get p.addr).1.refs.length rc1, .slice wa1 (H.get p.addr).1.words.length wc1] 25)
  have Y1 := Lib.hid y1
  have z2 := bz.size
  clear bz y1 c1
  refine (rget_any B _ r NV AV R p.addr T1z.out.q).mono ?_
  rintro e w2 ⟨v2, rfl, hv2, hb2⟩
  have eg : R.get p.addr = H.get p.addr := by rw [rget_abs]; exact (rel_get HR.out p.addr).symm
  rw [eg] at hv2 ⊢
  obtain ⟨ra2, rc2, wa2, wc2, rfl⟩ := hv2.open
  have T2 := Lib.hid (T1z.out.fresh hb2)
  have B2 := Lib.hid (below_then B1z.out (by omega) hb2)
  have V12 := Lib.hid (V1z.out.fresh hb2)
  have y2 := rowB hb2 Y1.out (heap_lt Y1.out)
  have Y2 := Lib.hid y2
  have V2 := Lib.hid hv2
  have z3 := B2.out.size
  have c2 := fun q => cellsH (old1 y2 q)
  clear hb2 y2 hv2 eg
  go_wp2_with fail
  have bz : Below w2.heap.size w2 (w2.alloc (.cells #[.int .i64 (H.get p.addr).1.op, .int .i64 (H.get p.addr).1.n, .int .i64 (H.get p.addr).1.ar, .slice ra2 (H.get p.addr).1.refs.length rc2, .slice wa2 (H.get p.addr).1.words.length wc2] 25)) := (Below.refl _ _).alloc (Nat.le_refl _) _
  have T2z := Lib.hid (T2.out.fresh bz)
  have B2z := Lib.hid (below_then B2.out (by omega) bz)
  refine (sameObj_any _ _ _ _ _ (H.get p.addr).1 (V12.out.fresh bz).at (V2.out.fresh bz).at).mono ?_
  rintro e w3 ⟨rfl, hb3⟩
  have T3 := Lib.hid (T2z.out.fresh hb3)
  have B3 := Lib.hid (below_then B2z.out (by have := bz.size; omega) hb3)
  clear hb3 bz c2
  go_wp2_with fail
  go_ret3
  exact ⟨⟨h, y, a, r, _, _, _, _, rfl, T3.out, HR.out.up⟩, B3.out⟩
set_option maxHeartbeats 4000000 in
theorem apply_set (B k : Nat) (w : World) (h y a r : Nat) (NV AV : Value) (H : HM) (R : RM) (p : Opn) (t : Two B w h y a r NV AV H R) (hr : Rel k H R.abs) (hk : k ≤ 100) (hop : OpOk B w p) (hB : B ≤ w.heap.size) (hkd : p.kind = 2) :
    Calls Try.prog 57 #[.pointer (some ⟨h, 0, none⟩), .pointer (some ⟨r, 0, none⟩), .agg p.arr] w fun e w' => Applied B k e w' ∧ Below B w w' := by
  obtain ⟨l1, l2, l3, l4⟩ := t.lt
  have b0 : Below w.heap.size w (w.alloc (.cells p.arr 85)) := (Below.refl _ _).alloc (Nat.le_refl _) _
  have T0 := Lib.hid (t.fresh b0)
  have B0 := Lib.hid (b0.mono hB)
  have OP0 := Lib.hid (hop.below (b0.mono hB))
  have x0 := new0 w (.cells p.arr 85)
  have X0 := Lib.hid x0
  have c0 := cellsH x0
  have HR := Lib.hid hr
  have s0 : R.s0 ≤ 65536 := by have := hr.n2; have := hr.nur; simp only [RM.abs] at this; omega
  have s1 : R.s1 ≤ 65536 := by have := hr.e2; have := hr.eld; simp only [RM.abs] at this; omega
  have n0 : 0 ≤ R.next ∧ R.next < 9223372036854775807 := by have := hr.next; have := hr.lo; have := hr.hi; simp only [RM.abs] at *; omega
  have S0 := Lib.hid s0
  have S1 := Lib.hid s1
  have N0 := Lib.hid n0
  have z0 := B0.out.size
  clear t hop b0 x0 hr s0 s1 n0
  have i0 := (opCells9 (show w.alloc (.cells p.arr 85) |>.drew |>.heap[w.heap.size]? = _ from X0.out)).2
  go_enter Try.func57, Try.ntmps57
  go_upto_region 11 with (fail)
  rw [hkd] at *
  clear c0
  go_region_held3 (fun w' => w'.cell? ⟨w.heap.size, 1, none⟩ = some (.int .i64 p.addr) ∧ w'.cell? ⟨w.heap.size, 2, none⟩ = some (.int .i64 p.o.op) ∧ w'.cell? ⟨w.heap.size, 3, none⟩ = some (.int .i64 p.o.n) ∧ w'.cell? ⟨w.heap.size, 4, none⟩ = some (.int .i64 p.o.ar) ∧
      w'.cell? ⟨w.heap.size, 5, none⟩ = some (.slice p.ra p.o.refs.length p.rc) ∧ w'.cell? ⟨w.heap.size, 6, none⟩ = some (.slice p.wa p.o.words.length p.wc) ∧ w'.cell? ⟨w.heap.size, 7, none⟩ = some (.slice p.na p.l1.length p.nc) ∧ w'.cell? ⟨w.heap.size, 8, none⟩ = some (.slice p.oa p.l2.length p.oc))
    (first | with_reducible exact i0 | with_reducible exact i1 | with_reducible exact i2)
    (first
      | (go_at_call 17; refine (set_any (· < B) _ h y a H p.addr _ p.o T0.out.p.drew (OP0.out.below (Below.refl _ _).drew).ob).mono ?_; rintro e w1 ⟨rfl, hh1, ht1⟩; have T0d := Lib.hid (T0.out.fresh (Below.refl _ _).drew); have T1 := Lib.hid (T0d.out.prog ht1 hh1); have B1 := Lib.hid (B0.out.drew.trans (T0d.out.pb ht1 (show B ≤ (w.alloc (.cells p.arr 85)).heap.size by omega))); have OP1 := Lib.hid ((OP0.out.below (Below.refl B _).drew).below (T0d.out.pb ht1 (show B ≤ (w.alloc (.cells p.arr 85)).heap.size by omega))); have x1 := T0d.out.keepP ht1 X0.out (by decide); have X1 := Lib.hid x1; have i1 := (opCells9 x1).2; have z1 := B1.out.size; clear hh1 ht1 x1)
      | (go_at_call 92; refine (rset_any B (· < B) _ r NV AV R p.addr _ p.o T1.out.q OP1.out.ob).mono ?_; rintro e w2 ⟨rfl, R', hq, hab, ht2⟩; have E1 := (rel_set HR.out p.addr p.o).1; rw [← E1]; have R2 := Lib.hid (show Rel (k + 1) _ R'.abs from hab ▸ (rel_set HR.out p.addr p.o).2); have T2 := Lib.hid (T1.out.ref ht2 hq); have B2 := Lib.hid (B1.out.trans (T1.out.rb ht2 (by omega))); have x2 := T1.out.keepR ht2 X1.out (by decide) (by decide); have i2 := (opCells9 x2).2; clear hq hab ht2 x2 E1))
  clear i0 i1 i2
  rename_i hHeld
  clear hHeld
  go_wp2_with fail
  go_ret3
  exact ⟨⟨h, y, a, r, _, _, _, _, rfl, T2.out, R2.out⟩, B2.out⟩
set_option maxHeartbeats 4000000 in
theorem apply_clone (B k : Nat) (w : World) (h y a r : Nat) (NV AV : Value) (H : HM) (R : RM) (p : Opn) (t : Two B w h y a r NV AV H R) (hr : Rel k H R.abs) (hk : k ≤ 100) (hop : OpOk B w p) (hB : B ≤ w.heap.size) (hkd : p.kind ≠ 0 ∧ p.kind ≠ 1 ∧ p.kind ≠ 2 ∧ p.kind ≠ 3) :
    Calls Try.prog 57 #[.pointer (some ⟨h, 0, none⟩), .pointer (some ⟨r, 0, none⟩), .agg p.arr] w fun e w' => Applied B k e w' ∧ Below B w w' := by
  obtain ⟨l1, l2, l3, l4⟩ := t.lt
  have b0 : Below w.heap.size w (w.alloc (.cells p.arr 85)) := (Below.refl _ _).alloc (Nat.le_refl _) _
  have T0 := Lib.hid (t.fresh b0)
  have B0 := Lib.hid (b0.mono hB)
  have OP0 := Lib.hid (hop.below (b0.mono hB))
  have x0 := new0 w (.cells p.arr 85)
  have X0 := Lib.hid x0
  have c0 := cellsH x0
  have HR := Lib.hid hr
  have s0 : R.s0 ≤ 65536 := by have := hr.n2; have := hr.nur; simp only [RM.abs] at this; omega
  have s1 : R.s1 ≤ 65536 := by have := hr.e2; have := hr.eld; simp only [RM.abs] at this; omega
  have n0 : 0 ≤ R.next ∧ R.next < 9223372036854775807 := by have := hr.next; have := hr.lo; have := hr.hi; simp only [RM.abs] at *; omega
  have S0 := Lib.hid s0
  have S1 := Lib.hid s1
  have N0 := Lib.hid n0
  have z0 := B0.out.size
  clear t hop b0 x0 hr s0 s1 n0
  have k0 : (p.kind == 0) = false := by simpa using hkd.1
  have k1 : (p.kind == 1) = false := by simpa using hkd.2.1
  have k2 : (p.kind == 2) = false := by simpa using hkd.2.2.1
  have k3 : (p.kind == 3) = false := by simpa using hkd.2.2.2
  clear hkd
  go_enter Try.func57, Try.ntmps57
  go_wp2_with fail
  refine (clone39_any _ h y a H T0.out.p (HR.out.keysY hk) (HR.out.keysA hk)).mono ?_
  rintro e w1 ⟨h', y', a', ly, la, rfl, hp1, p1, p2, g1, g2, g3, hb1⟩
  have T1 := Lib.hid (T0.out.fresh hb1)
  have B1 := Lib.hid (below_then B0.out (by omega) hb1)
  have P1 := Lib.hid hp1
  have R1 := Lib.hid (rel_clone HR.out p1 p2)
  have z1 := B1.out.size
  clear hp1 p1 p2 hb1 c0
  go_wp2_with fail
  refine (rclone_any B _ r NV AV R T1.out.q (by omega)).mono ?_
  rintro e w2 ⟨r', NV', AV', R', rfl, hq, hab, g4, hb2⟩
  have B2 := Lib.hid (below_then B1.out (by omega) hb2)
  have P2 := Lib.hid (P1.out.fresh hb2)
  have Q2 := Lib.hid hq
  have R2 := Lib.hid (show Rel (k + 1) _ R'.abs from hab ▸ R1.out)
  clear hq hab hb2
  go_wp2_with fail
  go_ret3
  exact ⟨⟨h', y', a', r', _, _, _, _, rfl, ⟨P2.out, Q2.out, by omega, by omega, by omega, by omega⟩, R2.out⟩, B2.out⟩
end Go.Proofs.Ytobniolmielikaa

