/- The reference heap: Clone; no condition. -/
import Derived.Test.YtobniolmielikaaRef10
namespace Go.Proofs.Ytobniolmielikaa
open Go.RowKit

theorem insP_length (l : List (Int × Ob)) (p : Int × Ob) : (insP l p).length = l.length + 1 := by
  have := congrArg List.length (List.takeWhile_append_dropWhile (p := fun q : Int × Ob => decide (q.1 < p.1)) (l := l))
  simp only [insP, List.length_append, List.length_cons] at this ⊢
  omega
theorem srtI_length (l : List (Int × Ob)) : (srtI l).length = l.length := by
  have go : ∀ (l m : List (Int × Ob)), (l.foldl insP m).length = m.length + l.length := by
    intro l
    induction l with
    | nil => intro m; simp
    | cons p r ih =>
      intro m
      have := ih (insP m p)
      rw [insP_length] at this
      simp only [List.foldl_cons, List.length_cons]
      omega
  have := go l []
  simpa [srtI] using this
theorem Own.apart {B : Nat} {w w' : World} {v v' : Value} {l l' : List It} (h : Own B w v l) (h' : Own w.heap.size w' v' l') : ∀ g, v.ownBlock = some g → v'.ownBlock ≠ some g := by
  intro g hg hg'
  have h1 := (h.lt g hg).2
  have h2 := (h'.lt g hg').1
  omega
/-- What Clone makes. -/
def HM.srt (H : HM) : HM := { H with ly := srtI H.ly, la := srtI H.la }

set_option maxHeartbeats 2000000 in
theorem rclone_any (base : Nat) (w : World) (r : Nat) (NV AV : Value) (R : RM) (hh : RHeapAt base w r NV AV R) (hbase : base ≤ w.heap.size) :
    Calls Try.prog 47 #[.pointer (some ⟨r, 0, none⟩)] w fun e w' => ∃ r' NV' AV' R', e = .returned (.pointer (some ⟨r', 0, none⟩)) ∧ RHeapAt base w' r' NV' AV' R' ∧ R'.abs = R.abs.srt ∧ w.heap.size ≤ r' ∧ Below w.heap.size w w' := by
  have hlt := hh.lt
  have HH := Lib.hid hh
  obtain ⟨A1, k1, rfl⟩ := hh.nown.shape
  obtain ⟨A2, k2, rfl⟩ := hh.aown.shape
  have i0 := (show RHeapAt base w.drew r _ _ R from hh.fresh (Below.refl _ _).drew).cells
  clear hh
  go_enter Try.func47, Try.ntmps47
  go_upto_region 1 with (fail)
  go_region_held3 (fun w' => w'.cell? ⟨r, 0, none⟩ = some (.int .i64 R.s0) ∧ w'.cell? ⟨r, 1, none⟩ = some (.int .i64 R.s1) ∧ w'.cell? ⟨r, 2, none⟩ = some (.slice A1 R.n.length k1) ∧ w'.cell? ⟨r, 3, none⟩ = some (.slice A2 R.a.length k2) ∧ w'.cell? ⟨r, 4, none⟩ = some (.int .i64 R.next))
    (first | with_reducible exact i0 | with_reducible exact i1 | with_reducible exact i2 | with_reducible exact i3 _)
    (first
      | (go_at_call_of 87 (Value.slice A1 R.n.length k1); refine (sorted_any _ _ _ R.n (HH.out.rawN.fresh (Below.refl _ _).drew) (fun x hx => ((HH.out.nok x hx).at.mono (fun _ _ _ => trivial)).fresh (Below.refl _ _).drew)).mono ?_; rintro e w5 ⟨v5, n', rfl, hown5, habs5, hob5, hb5⟩; obtain ⟨B5, c5, rfl⟩ := hown5.shape; have HB5 := Lib.hid (undrew hb5); have HOWN5 := Lib.hid hown5; have HABS5 := Lib.hid habs5; have HOB5 := Lib.hid hob5; have HH5 := Lib.hid (HH.out.fresh (undrew hb5)); have i1 := HH5.out.cells; clear hown5 habs5 hob5 hb5)
      | (go_at_call 87; refine (sorted_any _ _ _ R.a HH5.out.rawA (fun x hx => (HH5.out.aok x hx).at.mono (fun _ _ _ => trivial))).mono ?_; rintro e w6 ⟨v6, a', rfl, hown6, habs6, hob6, hb6⟩; obtain ⟨B6, c6, rfl⟩ := hown6.shape; have HB6 := Lib.hid hb6; have HOWN6 := Lib.hid hown6; have HABS6 := Lib.hid habs6; have HOB6 := Lib.hid hob6; have HH6 := Lib.hid (HH5.out.fresh hb6); have i2 := HH6.out.cells; have i3 := fun o => (HH6.out.fresh ((Below.refl _ _).alloc (Nat.le_refl _) o)).cells; clear hown6 habs6 hob6 hb6))
  clear i0 i1 i2 i3
  rename_i hHeld
  clear hHeld
  go_wp2_with fail
  go_ret
  have z5 := HB5.out.size
  have z6 := HB6.out.size
  have ln : n'.length = R.n.length := by
    have := congrArg List.length HABS5.out
    simpa [absI_length, srtI_length] using this
  have la : a'.length = R.a.length := by
    have := congrArg List.length HABS6.out
    simpa [absI_length, srtI_length] using this
  have bz : Below w6.heap.size w6 (w6.alloc (.cells #[.int .i64 R.s0, .int .i64 R.s1, .slice B5 n'.length c5, .slice B6 a'.length c6, .int .i64 R.next] 92)) := (Below.refl _ _).alloc (Nat.le_refl _) _
  refine ⟨w6.heap.size, _, _, ⟨R.s0, R.s1, R.next, n', a'⟩, rfl, ⟨new0 _ _, ((HOWN5.out.fresh HB6.out).fresh bz).base ?_, (HOWN6.out.fresh bz).base (by omega), ?_, ?_, ?_, ?_, ?_⟩, ?_, by omega, ?_⟩
  · simpa using hbase
  · exact HOWN5.out.apart HOWN6.out
  · exact fun x hx => ((HOB5.out x hx).fresh HB6.out).fresh bz
  · exact fun x hx => (HOB6.out x hx).fresh bz
  · rw [ln]; exact HH.out.nsmall
  · rw [la]; exact HH.out.asmall
  · simp [RM.abs, HM.srt, HABS5.out, HABS6.out]
  · exact below_then (below_then HB5.out HB5.out.size HB6.out) (by omega) bz
end Go.Proofs.Ytobniolmielikaa
