/- The sort of a slice of ints of the call's own: its contract in this seat's words; no condition. -/
import Derived.Test.YtobniolmielikaaWords
import Derived.Test.YtobniolmielikaaShelf
import Derived.Sort.OwnSortedInts
namespace Go.Proofs.Ytobniolmielikaa
open Go.RowKit Go.Sort

/-- A list of ints, ascending. -/
def srt (xs : List Int) : List Int := xs.mergeSort fun x y => decide (x ≤ y)
theorem srt_length (xs : List Int) : (srt xs).length = xs.length := List.length_mergeSort _

theorem sort_any (base n : Nat) (v : Value) (xs : List Int) (w : World) (hown : w.ownsRow base 3 1 v n (xs.map (Value.int .i64))) (hn : n * 8 ≤ 140737488355328) :
    Calls Try.prog 58 #[v] w fun e w' => e = .returned (.tuple #[]) ∧ w'.ownsRow base 3 1 v n ((srt xs).map (Value.int .i64)) ∧ w.grownBy w' v.ownBlock := by
  have hl : xs.length = n := by have := hown.1; simpa using this
  subst hl
  rcases hown.2 with ⟨rfl, h0⟩ | ⟨g, cap, cur, rfl, hg, hb, h1, h2, h3, h4⟩
  · have hx : xs = [] := List.eq_nil_of_length_eq_zero h0
    subst hx
    refine (Try.slices_Sort_int_none none 0 w).mono ?_
    rintro e w' ⟨rfl, rfl⟩
    exact ⟨rfl, by simpa [srt] using hown, World.grownBy.refl _ _⟩
  · refine (Try.slices_Sort_int g 0 cap xs w (holds_of_blockI hb (by rw [Nat.mul_one] at h4; exact h4)) (heap_lt hb) (by omega)).mono ?_
    rintro e w' ⟨rfl, m, os, rfl⟩
    exact ⟨rfl, ownsRow_sortedI (srt_length xs) hg hb h1 h2 h3, grownBy_sortedI _⟩
end Go.Proofs.Ytobniolmielikaa
