/- Prim and the reference's Prim at every name; no condition. -/
import Derived.Test.YtmehknlijcbphaaDoorRz1
import Derived.Test.YtmehknlijcbphaaDoorOrc
namespace Go.Proofs.YtmehknlijcbphaaDoor
open Go Go.RowKit Ev

/-- The names of the primitives. -/
def rowNames : List (List UInt8) := [[105, 110, 116, 65, 100, 100], [105, 110, 116, 83, 117, 98], [105, 110, 116, 77, 117, 108], [105, 110, 116, 81, 117, 111, 116], [105, 110, 116, 82, 101, 109], [105, 110, 116, 78, 101, 103], [105, 110, 116, 69, 113], [105, 110, 116, 76, 116], [105, 110, 116, 76, 101], [111, 114, 100], [99, 104, 114], [115, 101, 113], [114, 97, 105, 115, 101], [114, 101, 116, 117, 114, 110, 73, 79], [98, 105, 110, 100, 73, 79], [112, 117, 116, 67, 104, 97, 114], [103, 101, 116, 67, 104, 97, 114], [116, 104, 114, 111, 119, 73, 79], [101, 118, 97, 108, 117, 97, 116, 101], [99, 97, 116, 99, 104, 73, 79], [109, 97, 115, 107, 73, 79], [117, 110, 109, 97, 115, 107, 73, 79]]
/-- What is known of a name that is none of L. -/
def orcN (L : List (List UInt8)) : BinOp → AV → AV → Option Bool
  | .eql, .sym 0, .lit (.string s) => if L.contains s.data.toList then some false else none
  | .eql, .lit (.string s), .sym 0 => if L.contains s.data.toList then some false else none
  | .neq, .sym 0, .lit (.string s) => if L.contains s.data.toList then some true else none
  | .neq, .lit (.string s), .sym 0 => if L.contains s.data.toList then some true else none
  | _, _, _ => none
theorem orcN_ok {name : ByteArray} {n : Int} {te : ByteArray} {L : List (List UInt8)} (hL : L.contains name.data.toList = false) : letI := symsOf name n te; (tabOf (orcN L)).Ok Tryd.prog := by
  letI := symsOf name n te
  refine tabOf_ok _ ?_
  intro op x y b h c ux uy xt xo yo w hx hy
  have v0 : Syms.val 0 = .string name := rfl
  unfold orcN at h
  split at h
  · split at h
    · rename_i hc
      injection h with h
      simp only [Real, v0] at hx hy
      subst h hx hy
      rw [run_str_eql, (str_ne hc hL).2]
      try rfl
    · cases h
  · split at h
    · rename_i hc
      injection h with h
      simp only [Real, v0] at hx hy
      subst h hx hy
      rw [run_str_eql, (str_ne hc hL).1]
      try rfl
    · cases h
  · split at h
    · rename_i hc
      injection h with h
      simp only [Real, v0] at hx hy
      subst h hx hy
      rw [run_str_neq, (str_ne hc hL).2]
      try rfl
    · cases h
  · split at h
    · rename_i hc
      injection h with h
      simp only [Real, v0] at hx hy
      subst h hx hy
      rw [run_str_neq, (str_ne hc hL).1]
      try rfl
    · cases h
  · cases h
def rowName (k : Nat) : AV := .lit (.string ⟨(rowNames.getD k []).toArray⟩)
def cellsSl : AV → List AV
  | .sl _ cs _ => cs
  | _ => []
/-- The k-th primitive, its number, and that it is one. -/
noncomputable def primOf (k : Nat) : AV := .tup [.agg (((cellsSl r19).drop (k * 8)).take 8), .lit (.int .i64 k), .lit (.bool true)]
def noPrim : AV := .tup [.agg [.lit (.string ⟨#[]⟩), .lit (.slice .none 0 0), .lit (.slice .none 0 0), .lit (.int .i64 0), .lit (.string ⟨#[]⟩), .lit (.slice .none 0 0), .lit (.slice .none 0 0), .lit (.int .i64 0)], .lit (.int .i64 0), .lit (.bool .false)]
theorem e21_all : ((List.range 22).map fun k => evCall Tryd.prog (tabOf noOrc) extK 10000 30 21 [rowName k]) = (List.range 22).map fun k => some (primOf k) := by kernel_rfl
theorem e22_all : ((List.range 22).map fun k => evCall Tryd.prog (tabOf noOrc) extK 10000 30 22 [rowName k]) = (List.range 22).map fun k => some (primOf k) := by kernel_rfl
theorem e21_no : evCall Tryd.prog (tabOf (orcN rowNames)) extK 10000 30 21 [.sym 0] = some noPrim := by kernel_rfl
theorem e22_no : evCall Tryd.prog (tabOf (orcN rowNames)) extK 10000 30 22 [.sym 0] = some noPrim := by kernel_rfl

/-- Where a text stands in a list of texts. -/
def idxIn (s : List UInt8) : List (List UInt8) → Nat → Option Nat
  | [], _ => none
  | t :: r, k => if s = t then some k else idxIn s r (k + 1)
theorem idxIn_some {s : List UInt8} : ∀ {l : List (List UInt8)} {k j : Nat}, idxIn s l k = some j → k ≤ j ∧ l[j - k]? = some s
  | [], _, _, h => by cases h
  | t :: r, k, j, h => by
    unfold idxIn at h
    split at h
    · rename_i e
      injection h with h
      subst h e
      simp
    · obtain ⟨h1, h2⟩ := idxIn_some h
      refine ⟨by omega, ?_⟩
      rw [show j - k = (j - (k + 1)) + 1 by omega]
      simpa using h2
/-- Prim at a name that is known, and, where u, at one that is none of them. -/
noncomputable def primE (u : Bool) : List AV → Option AV
  | [.lit (.string s)] => (idxIn s.data.toList rowNames 0).map primOf
  | [.sym 0] => if u then some noPrim else none
  | _ => none
theorem primE_ok [Syms] {f : FuncId} (u : Bool) (ha : ((List.range 22).map fun k => evCall Tryd.prog (tabOf noOrc) extK 10000 30 f [rowName k]) = (List.range 22).map fun k => some (primOf k))
    (hu : u = true → ∃ o, (tabOf o).Ok Tryd.prog ∧ evCall Tryd.prog (tabOf o) extK 10000 30 f [.sym 0] = some noPrim) : OneOk f (primE u) := by
  intro args r h
  unfold primE at h
  split at h
  · rename_i s
    cases hi : idxIn s.data.toList rowNames 0 with
    | none => rw [hi] at h; cases h
    | some k =>
      rw [hi] at h
      injection h with h
      subst h
      obtain ⟨_, hk⟩ := idxIn_some hi
      rw [Nat.sub_zero] at hk
      have hlt : k < 22 := by
        obtain ⟨h1, _⟩ := List.getElem?_eq_some_iff.1 hk
        exact h1
      have he := congrArg (·[k]?) ha
      simp only [List.getElem?_map, List.getElem?_range hlt, Option.map_some, Option.some.injEq] at he
      have hn : rowName k = .lit (.string s) := by
        unfold rowName
        rw [List.getD_eq_getElem?_getD, hk]
        rfl
      rw [hn] at he
      exact oneOk tabNo_ok extK_ok 30 f _ _ he
  · split at h
    · rename_i hc
      injection h with h
      subst h
      obtain ⟨o, ho, he⟩ := hu hc
      exact oneOk ho extK_ok 30 f _ _ he
    · cases h
  · cases h
noncomputable def extP (u : Bool) : FuncId → Option (List AV → Option AV) := addExt (addExt extK 21 (primE u)) 22 (primE u)
theorem extP_known [Syms] : ExtOk Tryd.prog Tabd (extP false) := addExt_ok (addExt_ok extK_ok (primE_ok false e21_all (fun h => by cases h))) (primE_ok false e22_all (fun h => by cases h))
theorem extP_other {name : ByteArray} {n : Int} {te : ByteArray} (h : rowNames.contains name.data.toList = false) : letI := symsOf name n te; ExtOk Tryd.prog Tabd (extP true) :=
  letI := symsOf name n te
  addExt_ok (addExt_ok extK_ok (primE_ok true e21_all (fun _ => ⟨_, orcN_ok h, e21_no⟩))) (primE_ok true e22_all (fun _ => ⟨_, orcN_ok h, e22_no⟩))
end Go.Proofs.YtmehknlijcbphaaDoor
