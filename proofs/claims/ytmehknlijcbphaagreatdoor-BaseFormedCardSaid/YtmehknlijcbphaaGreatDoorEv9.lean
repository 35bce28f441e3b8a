/- Every operation of the evaluator is the model's; no condition. -/
import Derived.Test.YtmehknlijcbphaaGreatDoorEv8
import Derived.Lib.LazyBuf
namespace Go.Proofs.YtmehknlijcbphaaGreatDoor.Ev
open Go Go.RowKit

section
variable {P : Program} {T : Tab} {call : FuncId → List AV → Option AV} {Inv : World → Prop} {W0 : World} {ok0 : Nat → Nat → Prop} {E : Env} {o : Oper} {v : AV} {eff : Eff} {a : Act} {c : Cx} {K : Act → World → Prop} {Q : Exit → Act → World → Prop}

theorem mapM_places [Syms] {T : Tab} (hT : T.Ok P) {w : World} : ∀ (fs : List Field) (pl : List (Nat × Nat)), fs.mapM (fun f => (T.info f.type).map fun j => (f.offset, j.size)) = some pl → (fs.mapM (m := Sem) fun f => do pure (f.offset, ← sizeOf f.type)).run P w = .ok pl w
  | [], pl, h => by
    simp only [List.mapM_nil, Option.pure_def] at h
    injection h with h
    subst h
    rfl
  | f :: fs, pl, h => by
    simp only [List.mapM_cons] at h
    cases hi : T.info f.type with
    | none => rw [hi] at h; cases h
    | some j =>
      cases hm : fs.mapM (fun f => (T.info f.type).map fun j => (f.offset, j.size)) with
      | none => rw [hi, hm] at h; cases h
      | some l =>
        rw [hi, hm] at h
        injection h with h
        subst h
        have ih := mapM_places hT (w := w) fs l hm
        simp [sizeOf, run_typeInfo _ (hT.info _ _ hi)] at ih ⊢
        simp [ih]

theorem put_length [Syms] : ∀ (cs : List AV) (i : Nat) (ys : List AV), (put cs i ys).length = cs.length
  | cs, i, [] => by rw [put_nil]
  | [], i, y :: ys => by cases i <;> rfl
  | c :: cs, 0, y :: ys => by simp [put, put_length cs 0 ys]
  | c :: cs, i + 1, y :: ys => by simp [put, put_length cs i (y :: ys)]
theorem fillAV_length [Syms] (place : Nat → Option (Nat × Nat)) : ∀ (ps : List (Nat × AV)) (zs cs : List AV), fillAV place zs ps = some cs → cs.length = zs.length
  | [], zs, cs, h => by
    simp only [fillAV] at h
    injection h with h
    rw [h]
  | (i, x) :: ps, zs, cs, h => by
    simp only [fillAV] at h
    split at h
    · split at h
      · split at h
        · rw [fillAV_length place ps _ cs h, put_length]
        · cases h
      · cases h
    · cases h
theorem lit_real [Syms] {u : Value} {v : Value} (h : u = v) : Real c (.lit v) u := by simp only [Real]; exact h

/-- The operations that only look. -/
theorem evOp_sound [Syms] (hT : T.Ok P) (hcall : CallOk P Inv call) (hInv : Inv c.W) (h : evOp P T call E o = some (v, eff)) (hB : Base W0 ok0 c) (hbx : BoxOk E.bx c) (hlv : ∀ k, eff = .tok (some k) → E.lv k = true → (c.τ k).isSome = true)
    (htm : ∀ t, Real c (E.tm t) (a.tmps.getD t undef)) (hid : ¬ c.iss E.id) (hK : ∀ u c', Real c' v u → EffOk W0 ok0 E.id eff c c' → K (a.put o.dst u) c'.W) : Oper.wp P o a c.W K Q := by
  have hx := fun x => evX_real (a := a) htm x
  -- what is known without memory
  have hlitgen : ∀ (vv : Value), (∀ z ∈ o.op.operands.toList, (toVal (evX E.tm z)).isSome = true) → evLit P T o (fun z => (toVal (evX E.tm z)).getD undef) = some vv → v = .lit vv → eff = .none → execOp a.eval o = execOp (fun z => (toVal (evX E.tm z)).getD undef) o → Oper.wp P o a c.W K Q := by
    intro vv hall hev hv he hex
    subst hv
    subst he
    exact wp_value (by rw [hex]; exact evLit_run hT hev c.W) (hK vv c (lit_real rfl) (EffOk.same hB))
  have hval : ∀ z, (toVal (evX E.tm z)).isSome = true → (toVal (evX E.tm z)).getD undef = a.eval z := by
    intro z hz
    obtain ⟨w, hw⟩ := Option.isSome_iff_exists.1 hz
    rw [hw, toVal_real hw (hx z)]
    rfl
  cases hop : o.op with
  | move x =>
    simp only [evOp, hop] at h
    injection h with h
    injection h with h1 h2
    subst h1
    subst h2
    exact wp_value (u := a.eval x) (by simp [execOp, hop]) (hK _ c (hx x) (EffOk.same hB))
  | assign x =>
    simp only [evOp, hop] at h
    injection h with h
    injection h with h1 h2
    subst h1
    subst h2
    exact wp_value (u := a.eval x) (by simp [execOp, hop]) (hK _ c (hx x) (EffOk.same hB))
  | pick x y z =>
    simp only [evOp, hop] at h
    split at h
    · rename_i t hc
      injection h with h
      injection h with h1 h2
      subst h1
      subst h2
      have hxc := hx x
      rw [hc] at hxc
      simp only [Real] at hxc
      refine wp_value (u := if t then a.eval y else a.eval z) (by simp [execOp, hop, hxc, asBool]) (hK _ c ?_ (EffOk.same hB))
      cases t
      · exact hx z
      · exact hx y
    · cases h
  | alloc e =>
    simp only [evOp, hop] at h
    split at h
    · rename_i i hi
      cases hz : zeroCellsAV i with
      | none => rw [hz] at h; cases h
      | some cs =>
        rw [hz] at h
        injection h with h
        injection h with h1 h2
        subst h1
        subst h2
        obtain ⟨z, hz1, hz2, hz3⟩ := zeroCells_some hz
        obtain ⟨hr, h1⟩ := lits_some (c := c) hz3
        obtain ⟨c', he, hW, hρ⟩ := EffOk.newBox hB hid (e := e) hr h1
        refine wp_value (u := .pointer (some ⟨c.W.heap.size, 0, none⟩)) (w' := c'.W) ?_ (hK _ c' (by simp only [Real]; exact ⟨_, hρ, rfl⟩) he)
        rw [hW]
        simp [execOp, hop, run_alloc' (hT.info _ _ hi) hz1]
    · cases h
  | box e x =>
    simp only [evOp, hop] at h
    cases hz : cellsOf (evX E.tm x) with
    | none => rw [hz] at h; cases h
    | some cs =>
      rw [hz] at h
      injection h with h
      injection h with h1 h2
      subst h1
      subst h2
      obtain ⟨hr, h1⟩ := cellsOf_real hz (hx x)
      obtain ⟨c', he, hW, hρ⟩ := EffOk.newBox hB hid (e := e) hr h1
      refine wp_value (u := .pointer (some ⟨c.W.heap.size, 0, none⟩)) (w' := c'.W) ?_ (hK _ c' (by simp only [Real]; exact ⟨_, hρ, rfl⟩) he)
      rw [hW]
      simp [execOp, hop, run_box']
  | build t parts =>
    simp only [evOp, hop] at h
    split at h
    · rename_i fields i hu hi
      split at h
      · rename_i z places hz hp
        cases hf : fillAV (places[·]?) z (parts.toList.map fun p => (p.1, evX E.tm p.2)) with
        | none => rw [hf] at h; cases h
        | some cs =>
          rw [hf] at h
          injection h with h
          injection h with h1 h2
          subst h1
          subst h2
          obtain ⟨zv, hz1, hz2, hz3⟩ := zeroCells_some hz
          obtain ⟨hr, h1⟩ := lits_some (c := c) hz3
          obtain ⟨cells', e1, e2, e3⟩ := fill_real (c := c) (places[·]?) E.tm a.eval hx parts.toList z cs zv.cells hf hr h1
          refine wp_value (u := .agg cells') (w' := c.W) ?_ (hK _ c (by simp only [Real]; exact ⟨cells'.toList, by simp, e2, e3⟩) (EffOk.same hB))
          have hpl := mapM_places hT (w := c.W) fields.toList places hp
          have e1' : Instr.fill (fun x => places[x]?) zv.cells (List.map (fun x => (x.1, a.eval x.2)) parts.toList) = some cells' := e1
          have hpl' : (Array.mapM (m := Sem) (fun f => do pure (f.offset, ← sizeOf f.type)) fields).run P c.W = .ok places.toArray c.W := by
            rw [Array.mapM_eq_mapM_toList]
            simp only [Sem.run_map, hpl, Result.andThen_ok]
          simp only [execOp, hop, Instr.build, Sem.run_bind, zeroValue, run_typeInfo _ (hT.info _ _ hi), Result.andThen_ok, hz1, Sem.run_pure, run_underlying (hT.under _ _ hu), hpl']
          simp [e1']
      · cases h
    · cases h
  | buildSlice t len parts =>
    simp only [evOp, hop] at h
    split at h
    · rename_i e hu
      split at h
      · rename_i i hi
        split at h
        · rename_i z hz
          split at h
          · rename_i hlen
            cases hf : fillAV (fun k => some (k * i.size, i.size)) ((List.replicate len z).flatten) (parts.toList.map fun p => (p.1, evX E.tm p.2)) with
            | none => rw [hf] at h; cases h
            | some cs =>
              rw [hf] at h
              injection h with h
              injection h with h1 h2
              subst h1
              subst h2
              obtain ⟨zv, hz1, hz2, hz3⟩ := zeroCells_some hz
              obtain ⟨hr, h1⟩ := lits_some (c := c) hz3
              have hzl := hr.length
              -- the zero row
              have hrep : ((Array.range (len * i.size)).map fun j => zv.cells[j % zv.cells.size]!).toList = (List.replicate len zv.cells.toList).flatten := by
                have hs : zv.cells.size = i.size := hz2
                rw [hs]
                have hgen : ∀ len, (List.range (len * i.size)).map (fun j => zv.cells[j % i.size]!) = (List.replicate len zv.cells.toList).flatten := by
                  intro len
                  induction len with
                  | zero => simp
                  | succ n ih =>
                    rw [Nat.succ_mul, List.range_add, List.map_append, ih, List.replicate_succ', List.flatten_append]
                    congr 1
                    simp only [List.map_map, List.flatten_cons, List.flatten_nil, List.append_nil]
                    apply List.ext_getElem
                    · simp [hs]
                    · intro j h3 h4
                      have hj : j < i.size := by simpa using h3
                      have e : (n * i.size + j) % i.size = j := by rw [Nat.mul_comm, Nat.mul_add_mod, Nat.mod_eq_of_lt hj]
                      simp [e, hs, hj]
                simpa using hgen len
              obtain ⟨cells', e1, e2, e3⟩ := fill_real (c := c) (fun k => some (k * i.size, i.size)) E.tm a.eval hx parts.toList _ cs ((Array.range (len * i.size)).map fun j => zv.cells[j % zv.cells.size]!) hf (by rw [hrep]; exact realL_rep hr len)
                (by
                  rw [hrep]
                  intro v hv
                  simp only [List.mem_flatten, List.mem_replicate] at hv
                  obtain ⟨l, ⟨_, rfl⟩, hv⟩ := hv
                  exact h1 v hv)
              have hcl : cells'.size = len * i.size := by
                rw [← Array.length_toList, e2.length, fillAV_length _ _ _ _ hf, List.length_flatten]
                simp [← hzl, hz2]
              have hlen' : len ≤ maxLen := by
                have := Nat.le_mul_of_pos_right len hlen.1
                simp only [maxLen]
                omega
              obtain ⟨c', he, hW, hR⟩ := EffOk.newRow hB hid (e := e) (n := len) (sz := i.size) e2 e3 (by rw [Array.length_toList]; exact hcl) hlen'
              refine wp_value (u := .slice (some ⟨c.W.heap.size, 0, none⟩) len len) (w' := c'.W) ?_ (hK _ c' hR he)
              have e1' : Instr.fill (fun k => some (k * i.size, i.size)) ((Array.range (len * i.size)).map fun j => zv.cells[j % zv.cells.size]!) (List.map (fun p => (p.1, a.eval p.2)) parts.toList) = some cells' := e1
              rw [hW]
              by_cases hl0 : len * i.size = 0
              · have hr0 : Array.range 0 = (#[] : Array Nat) := rfl
                have e1'' : Instr.fill (fun k => some (k * i.size, i.size)) #[] (List.map (fun p => (p.1, a.eval p.2)) parts.toList) = some cells' := by simpa [hl0, hr0] using e1'
                simp only [execOp, hop, Instr.buildSlice, Sem.run_bind, run_underlying (hT.under _ _ hu), Result.andThen_ok, sizeOf, run_typeInfo _ (hT.info _ _ hi), Sem.run_pure, hl0]
                simp [hr0, e1'', newRow]
              · have hb : ¬ (len * i.size > 2 ^ 24) := by omega
                simp only [execOp, hop, Instr.buildSlice, Sem.run_bind, run_underlying (hT.under _ _ hu), Result.andThen_ok, sizeOf, run_typeInfo _ (hT.info _ _ hi), Sem.run_pure, hl0, hb, if_false, zeroValue, hz1]
                simp [e1', newRow]
          · cases h
        · cases h
      · cases h
    · cases h
  | load t x =>
    simp only [evOp, hop] at h
    split at h
    · rename_i k off hxk
      have hxx := hx x
      rw [hxk] at hxx
      simp only [Real] at hxx
      obtain ⟨b, hb1, hb2⟩ := hxx
      split at h
      · rename_i e cs hbk
        cases hrd : readAV T t (cs.drop off) with
        | none => rw [hrd] at h; cases h
        | some r =>
          rw [hrd] at h
          injection h with h
          injection h with h1 h2
          subst h1
          subst h2
          obtain ⟨b', vs, h3, h4, h5, h6⟩ := hbx k e cs hbk
          rw [hb1] at h3
          injection h3 with h3
          subst h3
          obtain ⟨u, hu1, hu2⟩ := readAV_real (c := c) hT hrd (b := b) (off := off) (h5.drop off) (fun j u hj => by
            rw [List.getElem?_drop] at hj
            rw [row_cell h4]
            exact hj) (fun u hu => h6 u (List.mem_of_mem_drop hu))
          exact wp_value (u := u) (by simp [execOp, hop, Instr.loadAt, hb2, Instr.sureAddr, hu1]) (hK u c hu2 (EffOk.same hB))
      · cases h
    · rename_i cs hxk
      have hxx := hx x
      rw [hxk] at hxx
      simp only [Real] at hxx
      obtain ⟨b, off, vs, hb1, hb2, hb3⟩ := hxx
      cases hrd : readAV T t cs with
      | none => rw [hrd] at h; cases h
      | some r =>
        rw [hrd] at h
        injection h with h
        injection h with h1 h2
        subst h1
        subst h2
        obtain ⟨u, hu1, hu2⟩ := readAV_real (c := c) hT hrd (b := b) (off := off) hb2 (fun j u hj => (hb3 j u hj).1) (fun u hu => by
          obtain ⟨j, hj⟩ := List.getElem?_of_mem hu
          exact (hb3 j u hj).2.2)
        exact wp_value (u := u) (by simp [execOp, hop, Instr.loadAt, hb1, Instr.sureAddr, hu1]) (hK u c hu2 (EffOk.same hB))
    · cases h
  | store t x y =>
    simp only [evOp, hop] at h
    split at h
    · rename_i k off i ys hxk hi hys
      have hxx := hx x
      rw [hxk] at hxx
      simp only [Real] at hxx
      obtain ⟨b, hb1, hb2⟩ := hxx
      split at h
      · rename_i e cs hbk
        split at h
        · rename_i hl
          injection h with h
          injection h with h1 h2
          subst h1
          subst h2
          obtain ⟨b', vs, h3, h4, h5, h6⟩ := hbx k e cs hbk
          rw [hb1] at h3
          injection h3 with h3
          subst h3
          obtain ⟨hy1, hy2⟩ := cellsOf_real hys (hx y)
          have hyl := hy1.length
          have hvl := h5.length
          have hyl' : (a.eval y).cells.size = i.size := by rw [← Array.length_toList, hyl]; exact hl.1
          have he := EffOk.store (id := E.id) hB hb1 h4 (RealL.put off h5 hy1) (fun v hv => by
            rcases putV_mem hv with hv | hv
            · exact h6 v hv
            · exact hy2 v hv)
          have hrun := run_storeVar' (P := P) (w := c.W) (t := t) (hT.info _ _ hi) (b := b) (off := off) (u := a.eval y) h4 hyl' (by rw [hyl']; omega) hy2
          exact wp_skip' (w' := putB c.W b (.cells (putV vs off (a.eval y).cells.toList).toArray e (0, 0))) (by simp [execOp, hop, Instr.storeAt, hb2, Instr.sureAddr, hrun]) (hK undef _ (by simp only [Real]) he)
        · cases h
      · cases h
    · cases h
  | fieldAddr s x f =>
    simp only [evOp, hop] at h
    split at h
    · rename_i fields hu
      split at h
      · rename_i fd hf
        split at h
        · rename_i i hi
          split at h
          · cases h
          · rename_i hsz
            have hxx := hx x
            split at h
            · rename_i k off hxk
              injection h with h
              injection h with h1 h2
              subst h1
              subst h2
              rw [hxk] at hxx
              simp only [Real] at hxx
              obtain ⟨b, hb1, hb2⟩ := hxx
              exact wp_value (u := .pointer (some ⟨b, off + fd.offset, none⟩)) (by simp [execOp, hop, Instr.fieldAt, run_underlying (hT.under _ _ hu), hf, hb2, Instr.sureAddr, fieldPlace, sizeOf, run_typeInfo _ (hT.info _ _ hi), hsz, add_at])
                (hK _ c (by simp only [Real]; exact ⟨b, hb1, rfl⟩) (EffOk.same hB))
            · rename_i cs hxk
              injection h with h
              injection h with h1 h2
              subst h1
              subst h2
              rw [hxk] at hxx
              simp only [Real] at hxx
              obtain ⟨b, off, vs, hb1, hb2, hb3⟩ := hxx
              exact wp_value (u := .pointer (some ⟨b, off + fd.offset, none⟩)) (by simp [execOp, hop, Instr.fieldAt, run_underlying (hT.under _ _ hu), hf, hb1, Instr.sureAddr, fieldPlace, sizeOf, run_typeInfo _ (hT.info _ _ hi), hsz, add_at])
                (hK _ c (by
                  simp only [Real]
                  exact ⟨b, off + fd.offset, vs.drop fd.offset, rfl, hb2.drop _, fun j u hj => by
                    rw [List.getElem?_drop] at hj
                    rw [Nat.add_assoc]
                    exact hb3 _ u hj⟩) (EffOk.same hB))
            · cases h
        · cases h
      · cases h
    · cases h
  | indexAddr t x i =>
    simp only [evOp, hop] at h
    split at h
    · rename_i e hu
      split at h
      · rename_i j n cs tok q k hi hxk hik
        split at h
        · rename_i hl
          injection h with h
          injection h with h1 h2
          subst h1
          subst h2
          have hxx := hx x
          have hii := hx i
          rw [hxk] at hxx
          rw [hik] at hii
          simp only [Real] at hxx hii
          obtain ⟨b, off, cap, vs, hb1, hb2, hb3, hb4, _⟩ := hxx
          exact wp_value (u := .pointer (some ⟨b, off + k.toNat * j.size, none⟩)) (by
            simp [execOp, hop, Instr.indexAt, hii, asIntOf, run_underlying (hT.under _ _ hu), hb1, hl.1, hl.2.1, sizeOf, run_typeInfo _ (hT.info _ _ hi), add_at])
            (hK _ c (by
              simp only [Real]
              exact ⟨b, off + k.toNat * j.size, (vs.drop (k.toNat * j.size)).take j.size, rfl, (hb3.drop _).take _, fun m u hm => by
                have hm1 := (take_get hm).1
                rw [List.getElem?_drop] at hm1
                rw [Nat.add_assoc]
                exact hb4 _ u hm1⟩) (EffOk.same hB))
        · cases h
      · cases h
    · cases h
  | field s x f =>
    simp only [evOp, hop] at h
    split at h
    · rename_i fields hu
      split at h
      · rename_i fd cs hf hxk
        cases hrd : readAV T fd.type (cs.drop fd.offset) with
        | none => rw [hrd] at h; cases h
        | some r =>
          rw [hrd] at h
          injection h with h
          injection h with h1 h2
          subst h1
          subst h2
          have hxx := hx x
          rw [hxk] at hxx
          simp only [Real] at hxx
          obtain ⟨vs, hb1, hb2, hb3⟩ := hxx
          have hd := hb2.drop fd.offset
          have hdl := hd.length
          unfold readAV at hrd
          split at hrd
          · rename_i d i hud hi
            split at hrd
            · rename_i hag
              split at hrd
              · rename_i hle
                injection hrd with hrd
                subst hrd
                refine wp_value (u := .agg ((vs.drop fd.offset).take i.size).toArray) ?_ (hK _ c (by simp only [Real]; exact ⟨_, rfl, hd.take _, fun u hu => hb3 u (List.mem_of_mem_drop (List.mem_of_mem_take hu))⟩) (EffOk.same hB))
                cases d <;> simp [isAggD] at hag <;>
                  simp [execOp, hop, Instr.field, run_underlying (hT.under _ _ hu), hf, hb1, asAgg, part, isAgg, run_underlying (hT.under _ _ hud), sizeOf, run_typeInfo _ (hT.info _ _ hi)]
              · cases hrd
            · rename_i hag
              cases hcd : cs.drop fd.offset with
              | nil => rw [hcd] at hrd; cases hrd
              | cons y ys =>
                rw [hcd] at hrd hd
                injection hrd with hrd
                subst hrd
                obtain ⟨u, us, hus, h2, _⟩ := realL_cons_inv hd
                have h0 : vs[fd.offset]? = some u := by
                  have := congrArg (·[0]?) hus
                  simpa using this
                refine wp_value (u := u) ?_ (hK _ c h2 (EffOk.same hB))
                cases d <;> simp [isAggD] at hag <;>
                  simp [execOp, hop, Instr.field, run_underlying (hT.under _ _ hu), hf, hb1, asAgg, part, isAgg, run_underlying (hT.under _ _ hud), h0]
          · cases hrd
      · cases h
    · cases h
  | extract x i =>
    simp only [evOp, hop] at h
    split at h
    · rename_i cs hxk
      cases hc : cs[i]? with
      | none => rw [hc] at h; cases h
      | some y =>
        rw [hc] at h
        injection h with h
        injection h with h1 h2
        subst h1
        subst h2
        have hxx := hx x
        rw [hxk] at hxx
        simp only [Real] at hxx
        obtain ⟨vs, hb1, hb2⟩ := hxx
        obtain ⟨u, hu1, hu2⟩ := hb2.get hc
        exact wp_value (u := u) (by simp [execOp, hop, Instr.extract, hb1, hu1]) (hK u c hu2 (EffOk.same hB))
    · cases h
  | unOp op t x =>
    simp only [evOp, hop] at h
    split at h
    · rename_i hall
      cases hev : evLit P T o (fun z => (toVal (evX E.tm z)).getD undef) with
      | none => rw [hev] at h; cases h
      | some vv =>
        rw [hev] at h
        injection h with h
        injection h with h1 h2
        have hall' : ∀ z ∈ o.op.operands.toList, (toVal (evX E.tm z)).isSome = true := by rw [hop]; exact List.all_eq_true.1 hall
        refine hlitgen vv hall' hev h1.symm h2.symm ?_
        rw [hop] at hall'
        have e1 := hval x (hall' x (by simp [Op.operands]))
        simp only [execOp, hop, e1]
    · cases h
  | convert src dst x =>
    simp only [evOp, hop] at h
    split at h
    · rename_i hall
      cases hev : evLit P T o (fun z => (toVal (evX E.tm z)).getD undef) with
      | none => rw [hev] at h; cases h
      | some vv =>
        rw [hev] at h
        injection h with h
        injection h with h1 h2
        have hall' : ∀ z ∈ o.op.operands.toList, (toVal (evX E.tm z)).isSome = true := by rw [hop]; exact List.all_eq_true.1 hall
        refine hlitgen vv hall' hev h1.symm h2.symm ?_
        rw [hop] at hall'
        have e1 := hval x (hall' x (by simp [Op.operands]))
        simp only [execOp, hop, e1]
    · cases h
  | index t x i =>
    simp only [evOp, hop] at h
    split at h
    · rename_i hall
      cases hev : evLit P T o (fun z => (toVal (evX E.tm z)).getD undef) with
      | none => rw [hev] at h; cases h
      | some vv =>
        rw [hev] at h
        injection h with h
        injection h with h1 h2
        have hall' : ∀ z ∈ o.op.operands.toList, (toVal (evX E.tm z)).isSome = true := by rw [hop]; exact List.all_eq_true.1 hall
        refine hlitgen vv hall' hev h1.symm h2.symm ?_
        rw [hop] at hall'
        have e1 := hval x (hall' x (by simp [Op.operands]))
        have e2 := hval i (hall' i (by simp [Op.operands]))
        simp only [execOp, hop, e1, e2]
    · cases h
  | slice t x lo hi mx =>
    simp only [evOp, hop] at h
    split at h
    · rename_i hall
      cases hev : evLit P T o (fun z => (toVal (evX E.tm z)).getD undef) with
      | none => rw [hev] at h; cases h
      | some vv =>
        rw [hev] at h
        injection h with h
        injection h with h1 h2
        have hall' : ∀ z ∈ o.op.operands.toList, (toVal (evX E.tm z)).isSome = true := by rw [hop]; exact List.all_eq_true.1 hall
        refine hlitgen vv hall' hev h1.symm h2.symm ?_
        rw [hop] at hall'
        have e1 := hval x (hall' x (by simp [Op.operands]))
        have e2 : lo.map a.eval = lo.map (fun z => (toVal (evX E.tm z)).getD undef) := by
          cases lo with
          | none => rfl
          | some z => simp only [Option.map_some]; rw [hval z (hall' z (by simp [Op.operands]))]
        have e3 : hi.map a.eval = hi.map (fun z => (toVal (evX E.tm z)).getD undef) := by
          cases hi with
          | none => rfl
          | some z => simp only [Option.map_some]; rw [hval z (hall' z (by simp [Op.operands]))]
        have e4 : mx.map a.eval = mx.map (fun z => (toVal (evX E.tm z)).getD undef) := by
          cases mx with
          | none => rfl
          | some z => simp only [Option.map_some]; rw [hval z (hall' z (by simp [Op.operands]))]
        simp only [execOp, hop, e1, e2, e3, e4]
    · cases h
  | binOp op xt x y yt =>
    simp only [evOp, hop] at h
    cases horc : T.orc op (evX E.tm x) (evX E.tm y) with
    | some b =>
      rw [horc] at h
      injection h with h
      injection h with h1 h2
      subst h1
      subst h2
      have hr := hT.orc op _ _ b horc c _ _ xt x y c.W (hx x) (hx y)
      refine wp_value (u := .bool b) ?_ (hK _ c (lit_real rfl) (EffOk.same hB))
      simp only [execOp, hop, Sem.run_bind] at hr ⊢
      rw [hr]
      rfl
    | none =>
    rw [horc] at h
    dsimp only at h
    split at h
    · rename_i n cs tok hxk hyk
      have hxx := hx x
      have hyy := hx y
      rw [hxk] at hxx
      rw [hyk] at hyy
      simp only [Real] at hxx hyy
      obtain ⟨b, off, cap, vs, hb1, _⟩ := hxx
      split at h
      · rename_i el hu
        injection h with h
        injection h with h1 h2
        subst h1
        subst h2
        have hr := run_eql_slice_nil (P := P) c.W xt el (some ⟨b, off, none⟩) n cap (hT.under _ _ hu)
        refine wp_value (u := .bool false) ?_ (hK _ c (lit_real rfl) (EffOk.same hB))
        simp [execOp, hop, hb1, hyy, eqGuard, hr]
      · rename_i el hu
        injection h with h
        injection h with h1 h2
        subst h1
        subst h2
        have hr := run_neq_slice_nil (P := P) c.W xt el (some ⟨b, off, none⟩) n cap (hT.under _ _ hu)
        refine wp_value (u := .bool true) ?_ (hK _ c (lit_real rfl) (EffOk.same hB))
        simp [execOp, hop, hb1, hyy, eqGuard, hr]
      · cases h
    · split at h
      · rename_i vx vy hvx hvy
        have ho : ({ o with op := .binOp op xt x y yt } : Oper) = o := by cases o; simp_all
        rw [ho] at h
        cases hev : evLit P T o (fun z => (toVal (evX E.tm z)).getD undef) with
        | none => rw [hev] at h; cases h
        | some vv =>
          rw [hev] at h
          injection h with h
          injection h with h1 h2
          have s1 : (toVal (evX E.tm x)).isSome = true := by rw [hvx]; rfl
          have s2 : (toVal (evX E.tm y)).isSome = true := by rw [hvy]; rfl
          refine hlitgen vv ?_ hev h1.symm h2.symm ?_
          · rw [hop]
            intro z hz
            simp [Op.operands] at hz
            rcases hz with rfl | rfl
            · exact s1
            · exact s2
          · have e1 := hval x s1
            have e2 := hval y s2
            simp only [execOp, hop, e1, e2]
      · cases h
  | makeFunc f fst cap =>
    cases f with
    | func f =>
      simp only [evOp, hop] at h
      split at h
      · rename_i hf
        injection h with h
        injection h with h1 h2
        subst h1
        subst h2
        have hf' : fst = #[] := by simpa using hf
        subst hf'
        refine wp_value (u := .func (.func f) #[] (cap.map a.eval)) (by simp [execOp, hop, Instr.makeFunc]) (hK _ c ?_ (EffOk.same hB))
        simp only [Real]
        refine ⟨cap.toList.map a.eval, by rw [show cap.map a.eval = (cap.toList.map a.eval).toArray from Array.ext' (by simp)], ?_⟩
        have : ∀ l : List Operand, RealL c (l.map (evX E.tm)) (l.map a.eval) := by
          intro l
          induction l with
          | nil => exact realL_nil
          | cons z r ih => exact realL_cons (hx z) ih
        exact this _
      · cases h
    | _ =>
      simp only [evOp, hop] at h
      split at h
      · simp only [evLit, hop] at h
        cases h
      · cases h
  | call cl =>
    obtain ⟨callee, args, argTypes⟩ := cl
    have hgenL : ∀ l : List Operand, RealL c (l.map (evX E.tm)) (l.map a.eval) := by
      intro l
      induction l with
      | nil => exact realL_nil
      | cons z r ih => exact realL_cons (hx z) ih
    have hother : ∀ (ho2 : evOp P T call E o = match evCallee E callee with
        | some (g, cap) => match (args.toList.map (evX E.tm) ++ cap).mapM (strip noBox 50) with
          | some vs => match call g vs with
            | some (.sl n cs (some (_, e, sz))) => (cs.mapM (strip noBox 50)).map fun cs => (.sl n cs (some (E.id, e, sz)), .tok none)
            | some r => (strip noBox 50 r).map fun r => (r, .none)
            | none => none
          | none => match (args.toList.map (evX E.tm) ++ cap).mapM (strip E.bx 50) with
            | some vs => match call g vs with
              | some r => if flat 50 r then some (r, .none) else none
              | none => none
            | none => none
        | none => none), Oper.wp P o a c.W K Q := by
      intro ho2
      rw [ho2] at h
      clear ho2
      cases hce : evCallee E callee with
      | none => rw [hce] at h; cases h
      | some gc =>
        obtain ⟨g, cap⟩ := gc
        rw [hce] at h
        dsimp only at h
        -- the function value
        have hfv : ∃ (f : Operand) (cvs : List Value), callee = .value f ∧ a.eval f = .func (.func g) #[] cvs.toArray ∧ RealL c cap cvs := by
          unfold evCallee at hce
          split at hce
          · rename_i f
            have hxf := hx f
            split at hce
            · rename_i g' fst cp hf
              rw [hf] at hxf
              simp only [Real] at hxf
              split at hce
              · rename_i hs
                injection hce with hce
                injection hce with h1 h2
                subst h1
                subst h2
                have e1 : fst = #[] := by simpa using hs.1
                have e2 : cp = #[] := by simpa using hs.2
                subst e1
                subst e2
                exact ⟨f, [], rfl, hxf, realL_nil⟩
              · cases hce
            · rename_i g' cs hf
              rw [hf] at hxf
              simp only [Real] at hxf
              obtain ⟨cvs, h1, h2⟩ := hxf
              injection hce with hce
              injection hce with h3 h4
              subst h3
              subst h4
              exact ⟨f, cvs, rfl, h1, h2⟩
            · cases hce
          · cases hce
        obtain ⟨f, cvs, rfl, hfe, hcap⟩ := hfv
        have hargs : RealL c (args.toList.map (evX E.tm) ++ cap) (args.toList.map a.eval ++ cvs) := (hgenL _).append hcap
        have hrun : ∀ fn, P.funcs[g]? = some fn → fn.body.isNone = false → (fn.name == "runtime.NumGoroutine") = false → (execOp a.eval o).run P c.W = .ok (.enter g (args.toList.map a.eval ++ cvs).toArray) c.W := by
          intro fn h1 h2 h3
          have harr : args.map a.eval ++ cvs.toArray = (args.toList.map a.eval ++ cvs).toArray := Array.ext' (by simp)
          simp only [execOp, hop, resolve, hfe, Deferred.ofValue, Sem.run_bind, Sem.run_pure, Result.andThen_ok, invoke, Array.empty_append, harr, callFunc]
          have h3' : ¬ fn.name = "runtime.NumGoroutine" := by simpa using h3
          have h2' : ¬ fn.body = none := fun e => by rw [e] at h2; cases h2
          simp [program, Sem.run, h1, h2', h3']
        have hokb : ∀ b oo, c.ok b oo → b < c.W.heap.size := fun b oo h => (hB.okb b oo h).2
        split at h
        · rename_i vs hvs
          have hvr : RealL (argCx c.W c.ok) vs (args.toList.map a.eval ++ cvs) := strip_realL (c := c) (c' := argCx c.W c.ok) (fun b oo v h1 h2 => ⟨h1, h2⟩) (fun k e cs hk => by cases hk) 50 _ vs _ hvs hargs
          cases hcl : call g vs with
          | none => rw [hcl] at h; cases h
          | some r =>
            obtain ⟨⟨fn, f1, f2, f3⟩, hC⟩ := hcall g vs r hcl c.W c.ok _ hokb hvr hInv
            unfold Oper.wp
            rw [hrun fn f1 f2 f3]
            refine Calls.mono hC ?_
            rintro ee W' ⟨u, rfl, hb, c1, rfl, hc1, hc1r, hc1t⟩
            have hN : ∀ b oo, (c1.ok b oo ∧ c.W.heap.size ≤ b) → c.W.heap.size ≤ b ∧ b < c1.W.heap.size := fun b oo h => ⟨h.2, (hc1 b oo h.1).2⟩
            have hcell : ∀ (cc : Cx), cc.W = c1.W → (∀ b oo, cc.ok b oo ↔ c.ok b oo ∨ (c1.ok b oo ∧ c.W.heap.size ≤ b)) → ∀ b oo v, c1.ok b oo → c1.W.cell? ⟨b, oo, none⟩ = some v → cc.ok b oo ∧ cc.W.cell? ⟨b, oo, none⟩ = some v := by
              intro cc e1 e2 b oo v h1 h2
              rw [e1]
              refine ⟨(e2 b oo).2 ?_, h2⟩
              rcases (hc1 b oo h1).1 with h3 | h3
              · exact .inl h3
              · exact .inr ⟨h1, h3⟩
            rw [hcl] at h
            by_cases hsp : ∃ n cs t e sz, r = .sl n cs (some (t, e, sz))
            · obtain ⟨n, cs, t, e, sz, rfl⟩ := hsp
              dsimp only at h
              cases hm : cs.mapM (strip noBox 50) with
              | none => rw [hm] at h; cases h
              | some cs' =>
                rw [hm] at h
                injection h with h
                injection h with h1 h2
                subst h1
                subst h2
                obtain ⟨gg, g1, g2, g3, g4⟩ := hc1t n cs t e sz rfl
                have he := EffOk.callTok (id := E.id) hB hid hb (fun b oo => c1.ok b oo ∧ c.W.heap.size ≤ b) hN (g := gg) (lim := n * sz) ⟨g2, g3⟩ (fun oo ho => g4 oo ho.1)
                have fin := fun hR => hK u _ hR he
                refine fin ?_
                simp only [Real] at hc1r ⊢
                obtain ⟨b, off, cap', vs', e1, e2, e3, e4, _, e5⟩ := hc1r
                have hcell' := hcell { W := c1.W, ok := fun b oo => c.ok b oo ∨ (c1.ok b oo ∧ c.W.heap.size ≤ b), ρ := c.ρ, τ := fun t => if t = E.id then some (gg, n * sz) else c.τ t, iss := fun t => c.iss t ∨ t = E.id } rfl (fun _ _ => Iff.rfl)
                refine ⟨b, off, cap', vs', e1, e2, strip_realL hcell' (fun k e cs hk => by cases hk) 50 cs cs' vs' hm e3, fun j v hj => ⟨(e4 j v hj).1, (hcell' b _ v (e4 j v hj).2.1 (e4 j v hj).1).1, (e4 j v hj).2.2⟩, .inr rfl, fun g' lim hg' => ?_⟩
                have : gg = g' ∧ n * sz = lim := by simpa using hg'
                obtain ⟨rfl, rfl⟩ := this
                obtain ⟨_, e6, e7⟩ := e5 gg _ g1
                exact ⟨rfl, e6, e7⟩
            · have h' : (strip noBox 50 r).map (fun r => ((r, .none) : AV × Eff)) = some (v, eff) := by
                cases r with
                | sl n cs tok =>
                  cases tok with
                  | none => exact h
                  | some q => exact absurd ⟨n, cs, q.1, q.2.1, q.2.2, rfl⟩ hsp
                | _ => exact h
              cases hm : strip noBox 50 r with
              | none => rw [hm] at h'; cases h'
              | some r' =>
                rw [hm] at h'
                injection h' with h'
                injection h' with h1 h2
                subst h1
                subst h2
                have he := EffOk.call (id := E.id) hB hb (fun b oo => c1.ok b oo ∧ c.W.heap.size ≤ b) hN
                have fin := fun hR => hK u _ hR he
                refine fin (strip_real ?_ (fun k e cs hk => by cases hk) 50 r r' u hm hc1r)
                exact hcell _ rfl (fun _ _ => Iff.rfl)
        · rename_i hvs0
          split at h
          · rename_i vs hvs
            cases hcl : call g vs with
            | none => rw [hcl] at h; cases h
            | some r =>
              rw [hcl] at h
              dsimp only at h
              split at h
              · rename_i hflat
                injection h with h
                injection h with h1 h2
                subst h1
                subst h2
                -- what the callee may look at: the boxes, too
                let ok1 : Nat → Nat → Prop := fun b _ => b < c.W.heap.size
                have hvr : RealL (argCx c.W ok1) vs (args.toList.map a.eval ++ cvs) := strip_realL (c := c) (c' := argCx c.W ok1) (fun b oo v h1 h2 => ⟨hokb b oo h1, h2⟩) (fun k e cs hk => by
                  obtain ⟨b, vs', h1, h2, h3, h4⟩ := hbx k e cs hk
                  exact ⟨b, vs', h1, h3, fun j v hj => ⟨by show c.W.cell? _ = _; rw [row_cell h2]; exact hj, (hB.rho k b h1).2.1, h4 v (List.mem_of_getElem? hj)⟩⟩) 50 _ vs _ hvs hargs
                obtain ⟨⟨fn, f1, f2, f3⟩, hC⟩ := hcall g vs r hcl c.W ok1 _ (fun b oo h => h) hvr hInv
                unfold Oper.wp
                rw [hrun fn f1 f2 f3]
                refine Calls.mono hC ?_
                rintro ee W' ⟨u, rfl, hb, c1, rfl, hc1, hc1r, hc1t⟩
                have he := EffOk.drew (id := E.id) hB hb
                have fin := fun hR => hK u _ hR he
                exact fin (flat_real 50 r u hflat hc1r)
              · cases h
          · cases h
    cases callee with
    | value f => exact hother (by simp only [evOp, hop]; rfl)
    | invoke rr m => exact hother (by simp only [evOp, hop]; rfl)
    | builtin bb =>
      cases bb with
      | len =>
        simp only [evOp, hop] at h
        split at h
        · rename_i x t hax hat
          have hax' : args = #[x] := Array.ext' (by simp [hax])
          have hat' : argTypes = #[t] := Array.ext' (by simp [hat])
          subst hax'
          subst hat'
          have hxx := hx x
          split at h
          · rename_i el n cs tok hu hxk
            injection h with h
            injection h with h1 h2
            subst h1
            subst h2
            rw [hxk] at hxx
            simp only [Real] at hxx
            obtain ⟨b, off, cap, vs, hb1, _⟩ := hxx
            exact wp_value (u := .int .i64 n) (by simp [execOp, hop, resolve, invoke, builtin, Builtin.len_, run_underlying (hT.under _ _ hu), hb1, goInt]) (hK _ c (lit_real rfl) (EffOk.same hB))
          · rename_i el aa n cc hu hxk
            injection h with h
            injection h with h1 h2
            subst h1
            subst h2
            rw [hxk] at hxx
            simp only [Real] at hxx
            exact wp_value (u := .int .i64 n) (by simp [execOp, hop, resolve, invoke, builtin, Builtin.len_, run_underlying (hT.under _ _ hu), hxx, goInt]) (hK _ c (lit_real rfl) (EffOk.same hB))
          · rename_i s hu hxk
            injection h with h
            injection h with h1 h2
            subst h1
            subst h2
            rw [hxk] at hxx
            simp only [Real] at hxx
            exact wp_value (u := .int .i64 s.size) (by simp [execOp, hop, resolve, invoke, builtin, Builtin.len_, run_underlying (hT.under _ _ hu), hxx, goInt]) (hK _ c (lit_real rfl) (EffOk.same hB))
          · cases h
        · cases h
      | append =>
        simp only [evOp, hop] at h
        split at h
        · rename_i s x t t' hax hat
          have hax' : args = #[s, x] := Array.ext' (by simp [hax])
          have hat' : argTypes = #[t, t'] := Array.ext' (by simp [hat])
          subst hax'
          subst hat'
          split at h
          · rename_i htt
            subst htt
            split at h
            · rename_i el hu
              split at h
              · rename_i i hi
                split at h
                · rename_i hsz
                  have hss := hx s
                  have hxx := hx x
                  have hexec : ∀ (u' : Value) (w' : World), (Builtin.append_ #[t, t] o.type #[a.eval s, a.eval x]).run P c.W = .ok u' w' → (execOp a.eval o).run P c.W = .ok (.value u') w' := by
                    intro u' w' hr
                    simp [execOp, hop, resolve, invoke, builtin, hr]
                  split at h
                  · rename_i m ys tk hsk hxk
                    rw [hsk] at hss
                    rw [hxk] at hxx
                    simp only [Real] at hss
                    split at h
                    · rename_i hc
                      injection h with h
                      injection h with h1 h2
                      subst h1
                      subst h2
                      obtain ⟨u', c', hr, hR, he⟩ := append_real (P := P) (ty := o.type) hB hid (hT.under _ _ hu) (hT.info _ _ hi) hsz.2 hsz.1 (n := 0) (cs := []) (old := none) (u := a.eval s) (.inl ⟨rfl, rfl, rfl, hss⟩) hxx hc.1 hc.2.1 (by omega) (by rw [Nat.zero_add]; exact hc.2.2.1)
                      rw [Nat.zero_add, List.nil_append] at hR
                      exact wp_value (hexec u' _ hr) (hK u' c' hR he)
                    · cases h
                  · rename_i n cs k e' sz m ys tk hsk hxk
                    rw [hsk] at hss
                    rw [hxk] at hxx
                    split at h
                    · rename_i hc
                      injection h with h
                      injection h with h1 h2
                      subst h1
                      subst h2
                      obtain ⟨rfl, rfl, hlk, hm, hyl, hby, hnm⟩ := hc
                      obtain ⟨u', c', hr, hR, he⟩ := append_real (P := P) (ty := o.type) hB hid (hT.under _ _ hu) (hT.info _ _ hi) hsz.2 hsz.1 (n := n) (cs := cs) (old := some k) (u := a.eval s) (.inr ⟨k, rfl, hss, hlv k rfl hlk⟩) hxx hm hyl hnm hby
                      exact wp_value (hexec u' _ hr) (hK u' c' hR he)
                    · cases h
                  · rename_i hsk hxk
                    injection h with h
                    injection h with h1 h2
                    subst h1
                    subst h2
                    rw [hsk] at hss
                    rw [hxk] at hxx
                    simp only [Real] at hss hxx
                    refine wp_value (hexec (.slice none 0 0) c.W ?_) (hK _ c (lit_real rfl) (EffOk.same hB))
                    simp [hss, hxx, Builtin.append_, run_underlying (hT.under _ _ hu), sizeOf, run_typeInfo _ (hT.info _ _ hi), Builtin.lenOf, Builtin.firstCells]
                  · rename_i n cs tk _ hsk hxk
                    injection h with h
                    injection h with h1 h2
                    subst h1
                    subst h2
                    rw [hsk] at hss
                    rw [hxk] at hxx
                    have hss' := hss
                    simp only [Real] at hss hxx
                    obtain ⟨b, off, cap, vs, hb1, hb2, _⟩ := hss
                    refine wp_value (hexec (a.eval s) c.W ?_) (hK _ c hss' (EffOk.same hB))
                    simp [hb1, hxx, Builtin.append_, run_underlying (hT.under _ _ hu), sizeOf, run_typeInfo _ (hT.info _ _ hi), Builtin.lenOf, Builtin.firstCells, hb2, storeCells]
                  · cases h
                · cases h
              · cases h
            · cases h
          · cases h
        · cases h
      | max =>
        simp only [evOp, hop] at h
        split at h
        · rename_i x y hax
          have hax' : args = #[x, y] := Array.ext' (by simp [hax])
          subst hax'
          have hxx := hx x
          have hyy := hx y
          split at h
          · rename_i k p k' q hxk hyk
            injection h with h
            injection h with h1 h2
            subst h1
            subst h2
            rw [hxk] at hxx
            rw [hyk] at hyy
            simp only [Real] at hxx hyy
            refine wp_value (u := .int k (if p < q then q else p)) ?_ (hK _ c (lit_real rfl) (EffOk.same hB))
            simp [execOp, hop, resolve, invoke, builtin, hxx, hyy, Builtin.max_, Builtin.max2]
          · cases h
        · cases h
      | _ => exact hother (by simp only [evOp, hop]; rfl)
  | _ =>
    simp only [evOp, hop] at h
    split at h
    · simp only [evLit, hop] at h
      cases h
    · cases h
end
end Go.Proofs.YtmehknlijcbphaaGreatDoor.Ev
