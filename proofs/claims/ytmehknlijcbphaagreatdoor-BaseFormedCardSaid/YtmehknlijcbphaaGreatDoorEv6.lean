/- Each operation of the evaluator is the model's: those that make nothing new; no condition. -/
import Derived.Test.YtmehknlijcbphaaGreatDoorEv5
namespace Go.Proofs.YtmehknlijcbphaaGreatDoor.Ev
open Go Go.RowKit

theorem wp_value {P : Program} {o : Oper} {a : Act} {w w' : World} {u : Value} {K : Act → World → Prop} {Q : Exit → Act → World → Prop} (h : (execOp a.eval o).run P w = .ok (.value u) w') (hk : K (a.put o.dst u) w') : Oper.wp P o a w K Q := by
  unfold Oper.wp
  rw [h]
  exact hk
theorem wp_skip' {P : Program} {o : Oper} {a : Act} {w w' : World} {K : Act → World → Prop} {Q : Exit → Act → World → Prop} (h : (execOp a.eval o).run P w = .ok .skip w') (hk : K (a.put o.dst undef) w') : Oper.wp P o a w K Q := by
  unfold Oper.wp
  rw [h]
  exact hk

section
variable {c : Cx}
theorem evX_real [Syms] {tm : Nat → AV} {a : Act} (htm : ∀ t, Real c (tm t) (a.tmps.getD t undef)) (x : Operand) : Real c (evX tm x) (a.eval x) := by
  cases x with
  | tmp t => exact htm t
  | const v => simp only [evX, Real, Act.eval]
  | global g => simp only [evX, Real, Act.eval]
  | func f => simp only [evX, Real, Act.eval]

theorem readAV_real [Syms] {P : Program} {T : Tab} (hT : T.Ok P) {t : TypeId} {cs : List AV} {v : AV} (h : readAV T t cs = some v) {b off : Nat} {vs : List Value} (hr : RealL c cs vs)
    (hc : ∀ j u, vs[j]? = some u → c.W.cell? ⟨b, off + j, none⟩ = some u) (h1 : ∀ u ∈ vs, u.oneCell' = true) : ∃ u, (loadVar t ⟨b, off, none⟩).run P c.W = .ok u c.W ∧ Real c v u := by
  unfold readAV at h
  split at h
  · rename_i d i hu hi
    have hl := hr.length
    obtain ⟨ha, hn⟩ := run_loadVar' (w := c.W) (hT.under t d hu) (hT.info t i hi) hc
    split at h
    · rename_i hd
      split at h
      · rename_i hle
        injection h with h
        subst h
        refine ⟨_, ha hd (by omega), ?_⟩
        simp only [Real]
        exact ⟨_, rfl, hr.take _, fun u hu => h1 u (List.mem_of_mem_take hu)⟩
      · cases h
    · rename_i hd
      cases cs with
      | nil => cases h
      | cons x r =>
        injection h with h
        subst h
        obtain ⟨u, us, rfl, h2, _⟩ := realL_cons_inv hr
        exact ⟨u, hn (by simpa using hd) u rfl, h2⟩
  · cases h

theorem bytesEq_eq : ∀ (a b : List UInt8), bytesEq a b = (a == b)
  | [], [] => rfl
  | [], _ :: _ => rfl
  | _ :: _, [] => rfl
  | x :: a, y :: b => by
    have := bytesEq_eq a b
    simp only [bytesEq, this, List.cons_beq_cons]
    by_cases h : x = y
    · subst h; simp
    · have : x.toNat ≠ y.toNat := fun e => h (UInt8.toNat_inj.1 e)
      simp [this, h]

theorem mkStr_append (a b : ByteArray) : mkStr (a.data.toList ++ b.data.toList) = a ++ b := by
  unfold mkStr
  rw [← ByteArray.mk_append_mk]
theorem extract_data (s : ByteArray) (l h : Nat) : s.extract l h = mkStr ((s.data.toList.drop l).take (h - l)) := by
  have : s = ByteArray.mk s.data.toList.toArray := by simp
  rw [this, ByteArray.extract_mk]
  rfl

/-- An operation on values without memory. -/
theorem evLit_run [Syms] {P : Program} {T : Tab} (hT : T.Ok P) {o : Oper} {ρ : Operand → Value} {v : Value} (h : evLit P T o ρ = some v) (w : World) : (execOp ρ o).run P w = .ok (.value v) w := by
  unfold evLit at h
  split at h
  · rename_i op xt x y yt hop
    split at h
    · rename_i s t hs ht
      split at h
      · injection h with h
        subst h
        simp [execOp, hop, hs, ht, eqGuard, binOp, Op.stringOp, bytesEq_eq, ByteArray.toList_eq]
      · injection h with h
        subst h
        simp [execOp, hop, hs, ht, eqGuard, binOp, Op.stringOp, bytesEq_eq, ByteArray.toList_eq]
      · split at h
        · rename_i hl
          injection h with h
          subst h
          have hb : (s.size : Int) + (t.size : Int) ≤ 9223372036854775807 := by omega
          simp [execOp, hop, hs, ht, eqGuard, binOp, Op.stringOp, mkStr_append, hb]
        · cases h
      · cases h
    · have := pureRun_run P _ h w
      simp only [execOp, hop, Sem.run_bind] at this ⊢
      rw [this]
      rfl
  · rename_i op t x hop
    have := pureRun_run P _ h w
    simp only [execOp, hop, Sem.run_bind, this]
    rfl
  · rename_i src dst x hop
    have := pureRun_run P _ h w
    simp only [execOp, hop, Sem.run_bind, this]
    rfl
  · rename_i t x i hop
    split at h
    · rename_i s q k hu hx hi
      split at h
      · rename_i hk
        cases hg : s.data.toList[k.toNat]? with
        | none => rw [hg] at h; cases h
        | some b =>
          rw [hg] at h
          injection h with h
          subst h
          have hg' : s[k.toNat]? = some b := by
            obtain ⟨h1, h2⟩ := List.getElem?_eq_some_iff.1 hg
            have h1' : k.toNat < s.size := by simpa using h1
            rw [getElem?_pos s k.toNat h1']
            simpa [ByteArray.getElem_eq_getElem_data] using h2
          simp [execOp, hop, hx, hi, Instr.index, asIntOf, run_underlying (hT.under _ _ hu), hk, hg']
      · cases h
    · cases h
  · rename_i t x lo hi hop
    split at h
    · rename_i s q k hu hx hl hh
      split at h
      · rename_i hk
        injection h with h
        subst h
        have := run_slice_string_h (P := P) (w := w) (t := t) (s := s) (hT.under _ _ hu) q k hk.1 hk.2
        cases lo <;> simp at hl
        cases hi <;> simp at hh
        simp [execOp, hop, Instr.sliceAt, run_underlying (hT.under _ _ hu), hx, hh, this, extract_data, mkStr]
      · cases h
    · rename_i s q k hu hx hl hh
      split at h
      · rename_i hk
        injection h with h
        subst h
        have := run_slice_string_l (P := P) (w := w) (t := t) (s := s) (hT.under _ _ hu) q k hk.1 hk.2
        cases lo <;> simp at hl
        cases hi <;> simp at hh
        simp [execOp, hop, Instr.sliceAt, run_underlying (hT.under _ _ hu), hx, hl, this, extract_data, mkStr]
        rw [List.take_of_length_le (by simp)]
      · cases h
    · rename_i s q k q' k' hu hx hl hh
      split at h
      · rename_i hk
        injection h with h
        subst h
        cases lo <;> simp at hl
        cases hi <;> simp at hh
        have hk1 : 0 ≤ k' := by omega
        simp [execOp, hop, Instr.sliceAt, run_underlying (hT.under _ _ hu), hx, hl, hh, Instr.slice, Instr.sliceBounds, Instr.sliceBound, asIntOf, hk.1, hk.2.2, hk1, extract_data, mkStr]
        intro hc
        omega
      · cases h
    · cases h
  · cases h
end
end Go.Proofs.YtmehknlijcbphaaGreatDoor.Ev
