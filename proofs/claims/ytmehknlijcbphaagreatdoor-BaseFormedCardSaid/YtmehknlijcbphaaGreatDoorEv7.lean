/- What calls and appends leave; no condition. -/
import Derived.Test.YtmehknlijcbphaaGreatDoorEv6
namespace Go.Proofs.YtmehknlijcbphaaGreatDoor.Ev
open Go Go.RowKit

section
variable {W0 : World} {ok0 : Nat → Nat → Prop} {id : Nat} {c : Cx}

/-- A call: what is new of it may be looked at. -/
theorem EffOk.call [Syms] {W' : World} (hB : Base W0 ok0 c) (hb : Below c.W.heap.size c.W W') (N : Nat → Nat → Prop) (hN : ∀ b o, N b o → c.W.heap.size ≤ b ∧ b < W'.heap.size) :
    EffOk W0 ok0 id .none c { c with W := W', ok := fun b o => c.ok b o ∨ N b o } := by
  have h0 : W0.heap.size ≤ c.W.heap.size := hB.below.size
  have hsz : c.W.heap.size ≤ W'.heap.size := hb.size
  have hle : Le c { c with W := W', ok := fun b o => c.ok b o ∨ N b o } :=
    ⟨fun b o h => .inl h, fun b o v h hc => by rw [cell_eq (hb.block b (hB.okb b o h).2)]; exact hc, fun _ _ h => h, fun t h => h, fun t g lim _ h => ⟨h, hb.block g (hB.tok t g lim h).2.1⟩⟩
  refine ⟨hle, fun t h => .inl h, ⟨?_, hB.below.trans (hb.mono h0), ?_, hB.inj, ?_, hB.tinj⟩, fun bx h => h.le hle (fun k b hk => hb.block b (hB.rho k b hk).2.1), fun _ h => h⟩
  · rintro b o (h | h)
    · exact ⟨(hB.okb b o h).1, Nat.lt_of_lt_of_le (hB.okb b o h).2 hsz⟩
    · exact ⟨.inr (Nat.le_trans h0 (hN b o h).1), (hN b o h).2⟩
  · intro k b hk
    obtain ⟨h1, h2, h3, h4⟩ := hB.rho k b hk
    refine ⟨h1, Nat.lt_of_lt_of_le h2 hsz, fun o ho => ?_, h4⟩
    rcases ho with ho | ho
    · exact h3 o ho
    · have := (hN b o ho).1; omega
  · intro t g lim ht
    obtain ⟨h1, h2, h3, h4, h5⟩ := hB.tok t g lim ht
    refine ⟨h1, Nat.lt_of_lt_of_le h2 hsz, fun o ho => ?_, h4, h5⟩
    rcases ho with ho | ho
    · exact h3 o ho
    · have := (hN g o ho).1; omega

/-- .. that hands back a row with room of its own. -/
theorem EffOk.callTok [Syms] {W' : World} (hB : Base W0 ok0 c) (hid : ¬ c.iss id) (hb : Below c.W.heap.size c.W W') (N : Nat → Nat → Prop) (hN : ∀ b o, N b o → c.W.heap.size ≤ b ∧ b < W'.heap.size) {g lim : Nat}
    (hg : c.W.heap.size ≤ g ∧ g < W'.heap.size) (hlim : ∀ o, N g o → o < lim) :
    EffOk W0 ok0 id (.tok none) c { W := W', ok := fun b o => c.ok b o ∨ N b o, ρ := c.ρ, τ := fun t => if t = id then some (g, lim) else c.τ t, iss := fun t => c.iss t ∨ t = id } := by
  have h0 : W0.heap.size ≤ c.W.heap.size := hB.below.size
  have hsz : c.W.heap.size ≤ W'.heap.size := hb.size
  have hle : Le c { W := W', ok := fun b o => c.ok b o ∨ N b o, ρ := c.ρ, τ := fun t => if t = id then some (g, lim) else c.τ t, iss := fun t => c.iss t ∨ t = id } :=
    ⟨fun b o h => .inl h, fun b o v h hc => by rw [cell_eq (hb.block b (hB.okb b o h).2)]; exact hc, fun _ _ h => h, fun t h => .inl h, fun t g' lim' hi h => by
      have hti : t ≠ id := fun e => hid (e ▸ hi)
      have h' : c.τ t = some (g', lim') := by simpa [hti] using h
      exact ⟨h', hb.block g' (hB.tok t g' lim' h').2.1⟩⟩
  refine ⟨hle, fun t h => h, ⟨?_, hB.below.trans (hb.mono h0), ?_, hB.inj, ?_, ?_⟩, fun bx h => h.le hle (fun k b hk => hb.block b (hB.rho k b hk).2.1), ?_⟩
  · rintro b o (h | h)
    · exact ⟨(hB.okb b o h).1, Nat.lt_of_lt_of_le (hB.okb b o h).2 hsz⟩
    · exact ⟨.inr (Nat.le_trans h0 (hN b o h).1), (hN b o h).2⟩
  · intro k b hk
    obtain ⟨h1, h2, h3, h4⟩ := hB.rho k b hk
    refine ⟨h1, Nat.lt_of_lt_of_le h2 hsz, fun o ho => ?_, .inl h4⟩
    rcases ho with ho | ho
    · exact h3 o ho
    · have := (hN b o ho).1; omega
  · intro t g' lim' ht
    by_cases hti : t = id
    · have : g = g' ∧ lim = lim' := by simpa [hti] using ht
      obtain ⟨rfl, rfl⟩ := this
      refine ⟨Nat.le_trans h0 hg.1, hg.2, fun o ho => ?_, fun k hk => ?_, .inr hti⟩
      · rcases ho with ho | ho
        · have := (hB.okb g o ho).2; omega
        · exact hlim o ho
      · have := (hB.rho k g hk).2.1; omega
    · have ht' : c.τ t = some (g', lim') := by simpa [hti] using ht
      obtain ⟨h1, h2, h3, h4, h5⟩ := hB.tok t g' lim' ht'
      refine ⟨h1, Nat.lt_of_lt_of_le h2 hsz, fun o ho => ?_, h4, .inl h5⟩
      rcases ho with ho | ho
      · exact h3 o ho
      · have := (hN g' o ho).1; omega
  · intro t t' g' l l' ht ht'
    by_cases hti : t = id <;> by_cases hti' : t' = id
    · rw [hti, hti']
    · have e1 : g = g' ∧ lim = l := by simpa [hti] using ht
      have e2 : c.τ t' = some (g', l') := by simpa [hti'] using ht'
      have := (hB.tok t' g' l' e2).2.1
      omega
    · have e1 : g = g' ∧ lim = l' := by simpa [hti'] using ht'
      have e2 : c.τ t = some (g', l) := by simpa [hti] using ht
      have := (hB.tok t g' l e2).2.1
      omega
    · exact hB.tinj t t' g' l l' (by simpa [hti] using ht) (by simpa [hti'] using ht')
  · intro lv hlv t ht
    simp only [lvEff, Bool.or_eq_true, decide_eq_true_eq] at ht
    by_cases hti : t = id
    · simp [hti]
    · have := hlv t (by simpa [hti] using ht)
      simpa [hti] using this

/-- Append, told by where the new row lies. -/
theorem run_append_either [Syms] {P : Program} {w : World} (t ty e : TypeId) (i : TypeInfo) (z : Value) (ht : P.underlying t = some (.slice e)) (hi : P.info? e = some i) (hz : i.zero = some z) (hzs : z.cells.size = i.size) (hsz : 0 < i.size)
    (v : Value) (n : Nat) (xs : List Value) (hown : w.ownsRow 0 e i.size v n xs) (ad : Addr) (m cap : Nat) (news : List Value) (hl : news.length = m * i.size) (hnews : ∀ j u, news[j]? = some u → w.cell? (ad.add j) = some u)
    (h1 : ∀ u ∈ news, u.oneCell' = true) (hm : 0 < m) (h63 : n + m ≤ maxLen) (hbytes : (n + m) * i.bytes ≤ 140737488355328) :
    ∃ (g cap' : Nat) (w' : World), (Builtin.append_ #[t, t] ty #[v, .slice (some ad) m cap]).run P w = .ok (.slice (some ⟨g, 0, none⟩) (n + m) cap') w' ∧ w'.ownsRow 0 e i.size (.slice (some ⟨g, 0, none⟩) (n + m) cap') (n + m) (xs ++ news) ∧
      ((v.ownBlock = some g ∧ w.grownBy w' (some g)) ∨ (g = w.heap.size ∧ w.grownBy w' none)) ∧ g < w'.heap.size := by
  have hgen : ∀ {v' : Value} {w' : World}, w'.ownsRow 0 e i.size v' (n + m) (xs ++ news) → ∃ g cap', v' = .slice (some ⟨g, 0, none⟩) (n + m) cap' ∧ g < w'.heap.size := fun h => by
    obtain ⟨g, cap', h1, _, h2⟩ := h.form (by omega)
    exact ⟨g, cap', h1, h2⟩
  have nongrow : ∀ (_ : ∀ g n' cap', v = .slice (some ⟨g, 0, none⟩) n' cap' → cap' < n + m), ∃ (g cap' : Nat) (w' : World), (Builtin.append_ #[t, t] ty #[v, .slice (some ad) m cap]).run P w = .ok (.slice (some ⟨g, 0, none⟩) (n + m) cap') w' ∧
      w'.ownsRow 0 e i.size (.slice (some ⟨g, 0, none⟩) (n + m) cap') (n + m) (xs ++ news) ∧ g = w.heap.size ∧ w.grownBy w' none ∧ g < w'.heap.size := by
    intro hcap
    obtain ⟨v', w', hr, ho, hg, _, hat⟩ := run_append_own_at (P := P) w 0 t ty e i z i.size i.bytes ht hi hz rfl rfl hzs hsz v n xs hown ad m cap news hl hnews h1 h63 hbytes (Nat.zero_le _)
    obtain ⟨g, cap', rfl, hlt⟩ := hgen ho
    rcases hown.2 with ⟨rfl, rfl⟩ | ⟨g0, cap0, cur, rfl, _, hg0, hnc, _, hcs, _⟩
    · have hgg : g = w.heap.size := by
        rcases hat with hat | hat
        · simp [Value.ownBlock] at hat
        · simpa [Value.ownBlock] using hat
      exact ⟨g, cap', w', hr, ho, hgg, hg, hlt⟩
    · have hc0 := hcap g0 n cap0 rfl
      have hgrow := run_append_grow (P := P) w t ty e i z ht hi hz ⟨g0, 0, none⟩ n cap0 xs hown.1 (fun j u hj => hown.cells (g := g0) rfl j u hj) ad m cap news hl hnews hc0 (by simp only [maxLen] at h63; omega) (growslice_fits (by omega) hbytes)
      rw [hgrow] at hr
      injection hr with hr1 hr2
      injection hr1 with hr1 _ hr3
      injection hr1 with hr1
      injection hr1 with hr1
      subst hr1
      refine ⟨w.heap.size, cap', w', by rw [hgrow, hr2, hr3], ho, rfl, ?_, hlt⟩
      rw [← hr2]
      exact ⟨rfl, rfl, rfl, by simp, fun k hk _ => alloc_old w.drew _ hk⟩
  rcases hown.2 with ⟨hv, hn0⟩ | ⟨g0, cap0, cur, hv, _, hg0, hnc, _, hcs, _⟩
  · obtain ⟨g, cap', w', a1, a2, a3, a4, a5⟩ := nongrow (fun g n' cap' hh => by rw [hv] at hh; cases hh)
    exact ⟨g, cap', w', a1, a2, .inr ⟨a3, a4⟩, a5⟩
  · by_cases hroom : n + m ≤ cap0
    · subst hv
      obtain ⟨w', a1, a2, a3⟩ := run_append_own_spare (P := P) w 0 t ty e i i.size ht hi rfl g0 n cap0 xs hown ad m cap news hl hnews h1 hroom
      exact ⟨g0, cap0, w', a1, a2, .inl ⟨rfl, a3⟩, Nat.lt_of_lt_of_le (Array.getElem?_eq_some_iff.1 hg0).1 a3.size⟩
    · obtain ⟨g, cap', w', a1, a2, a3, a4, a5⟩ := nongrow (fun g n' cap' hh => by rw [hv] at hh; injection hh with _ _ hh; omega)
      exact ⟨g, cap', w', a1, a2, .inr ⟨a3, a4⟩, a5⟩
end
end Go.Proofs.YtmehknlijcbphaaGreatDoor.Ev
