/- The two heaps side by side, as lists: no program in sight; no condition. -/
import Derived.Test.YtobniolmielikaaScr1
namespace Go.Proofs.Ytobniolmielikaa
open Go.RowKit

/-- Ascending keys. -/
def Asc (l : List (Int × Ob)) : Prop := l.Pairwise fun p q => p.1 < q.1
theorem Asc.nodup {l : List (Int × Ob)} (h : Asc l) : (l.map (·.1)).Nodup := by
  unfold List.Nodup
  rw [List.pairwise_map]
  exact h.imp fun h e => by omega
theorem insP_perm (l : List (Int × Ob)) (p : Int × Ob) : (insP l p).Perm (p :: l) := by
  unfold insP
  refine List.perm_middle.trans ?_
  rw [List.takeWhile_append_dropWhile]
theorem insP_cons (q : Int × Ob) (l : List (Int × Ob)) (p : Int × Ob) : insP (q :: l) p = if q.1 < p.1 then q :: insP l p else p :: q :: l := by
  unfold insP
  by_cases h : q.1 < p.1
  · simp [List.takeWhile, List.dropWhile, h]
  · simp [List.takeWhile, List.dropWhile, h]
theorem insP_asc : ∀ {l : List (Int × Ob)} {p : Int × Ob}, Asc l → p.1 ∉ l.map (·.1) → Asc (insP l p)
  | [], p, _, _ => by simp [insP, Asc]
  | q :: l, p, h, hn => by
    rw [insP_cons]
    simp only [List.map_cons, List.mem_cons, not_or] at hn
    have h' := List.pairwise_cons.1 h
    split
    · rename_i hq
      have ih := insP_asc h'.2 hn.2
      refine List.pairwise_cons.2 ⟨fun z hz => ?_, ih⟩
      rcases List.mem_cons.1 ((insP_perm l p).mem_iff.1 hz) with rfl | hz
      · exact hq
      · exact h'.1 z hz
    · rename_i hq
      refine List.pairwise_cons.2 ⟨fun z hz => ?_, h⟩
      rcases List.mem_cons.1 hz with rfl | hz
      · omega
      · have := h'.1 z hz
        omega
theorem srtI_both {m : List (Int × Ob)} (h : (m.map (·.1)).Nodup) : Asc (srtI m) ∧ (srtI m).Perm m := by
  have go : ∀ (m acc : List (Int × Ob)), Asc acc → ((acc ++ m).map (·.1)).Nodup → Asc (m.foldl insP acc) ∧ (m.foldl insP acc).Perm (acc ++ m) := by
    intro m
    induction m with
    | nil => intro acc ha _; exact ⟨ha, by simp⟩
    | cons p r ih =>
      intro acc ha hn
      have hp : (insP acc p ++ r).Perm (acc ++ p :: r) := ((insP_perm acc p).append_right r).trans List.perm_middle.symm
      have hn' : ((insP acc p ++ r).map (·.1)).Nodup := (hp.map _).nodup_iff.2 hn
      have hnot : p.1 ∉ acc.map (·.1) := by
        rw [List.map_append, List.nodup_append] at hn
        intro hin
        exact hn.2.2 p.1 hin p.1 (by simp) rfl
      obtain ⟨h1, h2⟩ := ih (insP acc p) (insP_asc ha hnot) hn'
      exact ⟨h1, h2.trans hp⟩
  have := go m [] List.Pairwise.nil (by simpa using h)
  simpa [srtI] using this
theorem asc_snoc {l : List (Int × Ob)} {p : Int × Ob} (h : Asc l) (hp : ∀ q ∈ l, q.1 < p.1) : Asc (l ++ [p]) :=
  List.pairwise_append.2 ⟨h, by simp, fun q hq z hz => by simp at hz; subst hz; exact hp q hq⟩
theorem asc_map {l : List (Int × Ob)} (f : Int × Ob → Int × Ob) (hf : ∀ p, (f p).1 = p.1) (h : Asc l) : Asc (l.map f) := by
  unfold Asc
  rw [List.pairwise_map]
  exact h.imp fun h => by rw [hf, hf]; exact h
theorem put_asc {l : List (Int × Ob)} {k : Int} {o v : Ob} (h : Asc l) (hg : get l k = some o) : Asc (put l k v) := by
  have hk : k ∈ l.map (·.1) := by
    refine Classical.byContradiction fun hn => ?_
    rw [get_none.2 hn] at hg
    cases hg
  rw [put_map h.nodup hk]
  refine asc_map _ (fun p => ?_) h
  split
  · rename_i e; exact e.symm
  · rfl
theorem put_mem {l : List (Int × Ob)} {k : Int} {o v : Ob} (h : (l.map (·.1)).Nodup) (hg : get l k = some o) {p : Int × Ob} (hp : p ∈ put l k v) : ∃ q ∈ l, q.1 = p.1 := by
  have hk : k ∈ l.map (·.1) := by
    refine Classical.byContradiction fun hn => ?_
    rw [get_none.2 hn] at hg
    cases hg
  rw [put_map h hk] at hp
  obtain ⟨q, hq, rfl⟩ := List.mem_map.1 hp
  refine ⟨q, hq, ?_⟩
  split
  · rename_i e; exact e
  · rfl
theorem put_len {l : List (Int × Ob)} {k : Int} {o v : Ob} (h : (l.map (·.1)).Nodup) (hg : get l k = some o) : (put l k v).length = l.length := by
  have hk : k ∈ l.map (·.1) := by
    refine Classical.byContradiction fun hn => ?_
    rw [get_none.2 hn] at hg
    cases hg
  rw [put_map h hk, List.length_map]

/-- H: the program's heap, G: the reference's, after k operations. -/
structure Rel (k : Nat) (H G : HM) : Prop where
  nur : G.nur = H.nur
  eld : G.eld = H.eld
  next : G.next = H.next
  ly : H.ly.Perm G.ly
  la : H.la.Perm G.la
  sy : Asc G.ly
  sa : Asc G.la
  ky : ∀ p ∈ G.ly, 0 ≤ p.1 ∧ p.1 < H.next
  ka : ∀ p ∈ G.la, 0 ≤ p.1 ∧ p.1 < H.next
  dj : ∀ p ∈ G.ly, ∀ q ∈ G.la, p.1 ≠ q.1
  lo : 0 ≤ H.next
  hi : H.next ≤ 4611686018427387904 + k
  n1 : 1 ≤ H.nur
  n2 : H.nur ≤ 65536
  e1 : 1 ≤ H.eld
  e2 : H.eld ≤ 65536
  ln : H.ly.length ≤ H.nur
  le : H.la.length ≤ H.eld
theorem Rel.up {k : Nat} {H G : HM} (h : Rel k H G) : Rel (k + 1) H G := { h with hi := by have := h.hi; omega }
theorem Rel.ndy {k : Nat} {H G : HM} (h : Rel k H G) : (H.ly.map (·.1)).Nodup := (h.ly.map _).nodup_iff.2 h.sy.nodup
theorem Rel.nda {k : Nat} {H G : HM} (h : Rel k H G) : (H.la.map (·.1)).Nodup := (h.la.map _).nodup_iff.2 h.sa.nodup
theorem Rel.gy {k : Nat} {H G : HM} (h : Rel k H G) (x : Int) : get H.ly x = get G.ly x := get_perm h.ly h.ndy x
theorem Rel.ga {k : Nat} {H G : HM} (h : Rel k H G) (x : Int) : get H.la x = get G.la x := get_perm h.la h.nda x
theorem Rel.keysY {k : Nat} {H G : HM} (h : Rel k H G) (hk : k ≤ 100) : KeysIn H.ly := fun p hp => by
  have := h.ky p (h.ly.mem_iff.1 hp)
  have := h.hi
  omega
theorem Rel.keysA {k : Nat} {H G : HM} (h : Rel k H G) (hk : k ≤ 100) : KeysIn H.la := fun p hp => by
  have := h.ka p (h.la.mem_iff.1 hp)
  have := h.hi
  omega
theorem rel_new {n o : Int} (h : newOk n o = true) : Rel 0 ⟨n, o, 0, [], []⟩ ⟨n, o, 0, [], []⟩ := by
  simp [newOk] at h
  exact ⟨rfl, rfl, rfl, .refl _, .refl _, .nil, .nil, (fun p hp => by cases hp), (fun p hp => by cases hp), (fun p hp => by cases hp), by simp, by simp, by simp; omega, by simp; omega, by simp; omega, by simp; omega, by simp; omega, by simp; omega⟩
theorem rel_alloc {k : Nat} {H G : HM} (h : Rel k H G) (hk : k ≤ 100) (o : Ob) : (H.alloc o).1 = (G.ralloc o).1 ∧ (H.alloc o).2.1 = (G.ralloc o).2.1 ∧ Rel (k + 1) (H.alloc o).2.2 (G.ralloc o).2.2 := by
  have hl := h.ly.length_eq
  have hlo := h.lo
  have hhi := h.hi
  unfold HM.alloc HM.ralloc
  by_cases hv : vld o = true
  · rw [if_pos hv, if_pos hv, h.nur, ← hl]
    by_cases hf : H.nur ≤ H.ly.length
    · rw [if_pos hf, if_pos hf]
      exact ⟨rfl, rfl, h.up⟩
    · rw [if_neg hf, if_neg hf]
      have hw : wrap64 (H.next + 1) = H.next + 1 := by unfold wrap64; omega
      have hnot : H.next ∉ H.ly.map (·.1) := by
        intro hin
        obtain ⟨p, hp, e⟩ := List.mem_map.1 hin
        have := h.ky p (h.ly.mem_iff.1 hp)
        omega
      dsimp only
      rw [hw, put_new hnot]
      refine ⟨h.next.symm, rfl, ⟨by first | exact h.nur | rfl, h.eld, by dsimp only; rw [h.next], ?_, h.la, ?_, h.sa, ?_, ?_, ?_, by dsimp only; omega, by dsimp only; omega, h.n1, h.n2, h.e1, h.e2, ?_, h.le⟩⟩
      · rw [h.next]
        exact h.ly.append_right _
      · refine asc_snoc h.sy fun q hq => ?_
        have := h.ky q hq
        dsimp only
        rw [h.next]
        exact this.2
      · intro p hp
        dsimp only at hp ⊢
        rcases List.mem_append.1 hp with hp | hp
        · have := h.ky p hp
          omega
        · simp at hp
          subst hp
          dsimp only
          rw [h.next]
          omega
      · intro p hp
        have := h.ka p hp
        dsimp only
        omega
      · intro p hp q hq
        dsimp only at hp
        rcases List.mem_append.1 hp with hp | hp
        · exact h.dj p hp q hq
        · simp at hp
          subst hp
          have := h.ka q hq
          dsimp only
          rw [h.next]
          omega
      · simp
        omega
  · rw [if_neg hv, if_neg hv]
    exact ⟨rfl, rfl, h.up⟩
theorem rel_get {k : Nat} {H G : HM} (h : Rel k H G) (x : Int) : H.get x = G.get x := by
  unfold HM.get
  rw [h.gy, h.ga]
theorem rel_set {k : Nat} {H G : HM} (h : Rel k H G) (x : Int) (o : Ob) : (H.set x o).1 = (G.set x o).1 ∧ Rel (k + 1) (H.set x o).2 (G.set x o).2 := by
  unfold HM.set
  by_cases hv : vld o = true
  · rw [if_pos hv, if_pos hv, h.gy, h.ga]
    cases hy : get G.ly x with
    | some z =>
      refine ⟨rfl, { h.up with ly := put_perm h.ly h.ndy x o, sy := put_asc h.sy hy, ky := ?_, dj := ?_, ln := ?_ }⟩
      · intro p hp
        obtain ⟨q, hq, e⟩ := put_mem h.sy.nodup hy hp
        have := h.ky q hq
        rw [← e]
        exact this
      · intro p hp q hq
        obtain ⟨p', hp', e⟩ := put_mem h.sy.nodup hy hp
        rw [← e]
        exact h.dj p' hp' q hq
      · have := h.ln
        rw [put_len h.ndy ((h.gy x).trans hy)]
        exact this
    | none =>
      cases ha : get G.la x with
      | some z =>
        refine ⟨rfl, { h.up with la := put_perm h.la h.nda x o, sa := put_asc h.sa ha, ka := ?_, dj := ?_, le := ?_ }⟩
        · intro p hp
          obtain ⟨q, hq, e⟩ := put_mem h.sa.nodup ha hp
          have := h.ka q hq
          rw [← e]
          exact this
        · intro p hp q hq
          obtain ⟨q', hq', e⟩ := put_mem h.sa.nodup ha hq
          rw [← e]
          exact h.dj p hp q' hq'
        · have := h.le
          rw [put_len h.nda ((h.ga x).trans ha)]
          exact this
      | none => exact ⟨rfl, h.up⟩
  · rw [if_neg hv, if_neg hv]
    exact ⟨rfl, h.up⟩
theorem rel_clone {k : Nat} {H G : HM} (h : Rel k H G) {ly la : List (Int × Ob)} (h1 : ly.Perm H.ly) (h2 : la.Perm H.la) : Rel (k + 1) ⟨H.nur, H.eld, H.next, ly, la⟩ G.srt := by
  obtain ⟨a1, p1⟩ := srtI_both h.sy.nodup
  obtain ⟨a2, p2⟩ := srtI_both h.sa.nodup
  have hi := h.hi
  exact ⟨h.nur, h.eld, h.next, (h1.trans h.ly).trans p1.symm, (h2.trans h.la).trans p2.symm, a1, a2, fun p hp => h.ky p (p1.mem_iff.1 hp), fun p hp => h.ka p (p2.mem_iff.1 hp), fun p hp q hq => h.dj p (p1.mem_iff.1 hp) q (p2.mem_iff.1 hq),
    h.lo, by dsimp only; omega, h.n1, h.n2, h.e1, h.e2, by dsimp only; rw [h1.length_eq]; exact h.ln, by dsimp only; rw [h2.length_eq]; exact h.le⟩
theorem nxt_append {β : Type} (l m : List (Int × β)) : nxt (l ++ m) = max (nxt l) (nxt m) := by
  obtain ⟨b1, c1, d1⟩ := nxt_lt (l ++ m)
  obtain ⟨b2, c2, d2⟩ := nxt_lt l
  obtain ⟨b3, c3, d3⟩ := nxt_lt m
  have e1 := d2 (nxt (l ++ m)) c1 (fun p hp => b1 p (List.mem_append_left _ hp))
  have e2 := d3 (nxt (l ++ m)) c1 (fun p hp => b1 p (List.mem_append_right _ hp))
  have e3 := d1 (max (nxt l) (nxt m)) (by omega) (fun p hp => by
    rcases List.mem_append.1 hp with hp | hp
    · have := b2 p hp; omega
    · have := b3 p hp; omega)
  omega
theorem rel_repl {k : Nat} {H G H' G' : HM} {m1 m2 : List (Int × Ob)} (h : Rel k H G) (hd1 : (m1.map (·.1)).Nodup) (hd2 : (m2.map (·.1)).Nodup) (hp : Repl H m1 m2 H') (hq : RPut G m1 m2 G') : H.repl m1 m2 = G.repl m1 m2 ∧ Rel (k + 1) H' G' := by
  have hc : H.repl m1 m2 = G.repl m1 m2 := by simp [HM.repl, h.nur, h.eld]
  refine ⟨hc, ?_⟩
  by_cases h0 : H.repl m1 m2 = 0
  · obtain ⟨q1, q2, q3, q4, q5⟩ := hp.yes h0
    have hg := hq.yes (hc ▸ h0)
    have hcond : fitB m1 = true ∧ fitB m2 = true ∧ meets m1 m2 = false ∧ ¬ (H.nur < m1.length ∨ H.eld < m2.length) := by
      unfold HM.repl at h0
      split at h0
      · rename_i hc'
        split at h0
        · omega
        · rename_i hn
          exact ⟨hc'.1, hc'.2.1, hc'.2.2, hn⟩
      · omega
    obtain ⟨f1, f2, f3, f4⟩ := hcond
    obtain ⟨a1, p1⟩ := srtI_both hd1
    obtain ⟨a2, p2⟩ := srtI_both hd2
    have hlo := h.lo
    have hhi := h.hi
    obtain ⟨b1, c1, d1⟩ := nxt_lt m1
    obtain ⟨b2, c2, d2⟩ := nxt_lt m2
    have k1 : ∀ p ∈ m1, 0 ≤ p.1 ∧ p.1 < 4611686018427387904 := fun p hp => by
      have := List.all_eq_true.1 f1 p hp
      simp [fit1] at this
      omega
    have k2 : ∀ p ∈ m2, 0 ≤ p.1 ∧ p.1 < 4611686018427387904 := fun p hp => by
      have := List.all_eq_true.1 f2 p hp
      simp [fit1] at this
      omega
    have u1 := d1 4611686018427387904 (by omega) (fun p hp => (k1 p hp).2)
    have u2 := d2 4611686018427387904 (by omega) (fun p hp => (k2 p hp).2)
    subst hg
    refine ⟨by dsimp only; rw [q1]; exact h.nur, by dsimp only; rw [q2]; exact h.eld, ?_, q3.trans p1.symm, q4.trans p2.symm, a1, a2, ?_, ?_, ?_, by omega, by omega, by rw [q1]; exact h.n1, by rw [q1]; exact h.n2, by rw [q2]; exact h.e1, by rw [q2]; exact h.e2, ?_, ?_⟩
    · dsimp only
      rw [q5, nxt_append, h.next]
      omega
    · intro p hp
      have hm := p1.mem_iff.1 hp
      have := k1 p hm
      have := b1 p hm
      omega
    · intro p hp
      have hm := p2.mem_iff.1 hp
      have := k2 p hm
      have := b2 p hm
      omega
    · intro p hp q hq e
      have hm := p1.mem_iff.1 hp
      have hm2 := p2.mem_iff.1 hq
      have hn := List.any_eq_false.1 f3 p hm
      have : get m2 p.1 = some q.2 := (get_mem hd2).2 (by rw [e]; exact hm2)
      simp [this] at hn
    · rw [q1, q3.length_eq]
      omega
    · rw [q2, q4.length_eq]
      omega
  · have e1 := hp.no h0
    have e2 := hq.no (hc ▸ h0)
    subst e1 e2
    exact h.up
end Go.Proofs.Ytobniolmielikaa
