/- The law's scripts, and its helper bounded; no condition. -/
import Derived.Test.YtobniolmielikaaScr2
namespace Go.Proofs.Ytobniolmielikaa
open Go.RowKit

/-- An operation of a script, as it lies in memory. -/
structure Opn where
  kind : Int
  addr : Int
  o : Ob
  ra : Option Addr
  rc : Nat
  wa : Option Addr
  wc : Nat
  l1 : List It
  na : Option Addr
  nc : Nat
  l2 : List It
  oa : Option Addr
  oc : Nat
abbrev Opn.ov (p : Opn) : Value := .agg #[.int .i64 p.o.op, .int .i64 p.o.n, .int .i64 p.o.ar, .slice p.ra p.o.refs.length p.rc, .slice p.wa p.o.words.length p.wc]
abbrev Opn.nv (p : Opn) : Value := .slice p.na p.l1.length p.nc
abbrev Opn.lv (p : Opn) : Value := .slice p.oa p.l2.length p.oc
abbrev Opn.arr (p : Opn) : Array Value := #[.int .i64 p.kind, .int .i64 p.addr, .int .i64 p.o.op, .int .i64 p.o.n, .int .i64 p.o.ar, .slice p.ra p.o.refs.length p.rc, .slice p.wa p.o.words.length p.wc, .slice p.na p.l1.length p.nc, .slice p.oa p.l2.length p.oc]
/-- What it refers to is in blocks below B. -/
structure OpOk (B : Nat) (w : World) (p : Opn) : Prop where
  ob : ObAt (· < B) w p.ov p.o
  n : Raw (· < B) w p.nv p.l1
  l : Raw (· < B) w p.lv p.l2
  its : ∀ x ∈ p.l1 ++ p.l2, ObAt (· < B) w x.val x.o
theorem OpOk.below {B : Nat} {w w' : World} {p : Opn} (h : OpOk B w p) (hb : Below B w w') : OpOk B w' p :=
  ⟨h.ob.below hb (fun _ h _ => h), h.n.keep hb.size (fun b hk _ => hb.block b hk), h.l.keep hb.size (fun b hk _ => hb.block b hk), fun x hx => (h.its x hx).below hb (fun _ h _ => h)⟩
/-- The cells of an operation. -/
structure OpCells (w : World) (b o : Nat) (p : Opn) : Prop where
  c0 : w.cell? ⟨b, o, none⟩ = some (.int .i64 p.kind)
  c1 : w.cell? ⟨b, o + 1, none⟩ = some (.int .i64 p.addr)
  c2 : w.cell? ⟨b, o + 2, none⟩ = some (.int .i64 p.o.op)
  c3 : w.cell? ⟨b, o + 3, none⟩ = some (.int .i64 p.o.n)
  c4 : w.cell? ⟨b, o + 4, none⟩ = some (.int .i64 p.o.ar)
  c5 : w.cell? ⟨b, o + 5, none⟩ = some (.slice p.ra p.o.refs.length p.rc)
  c6 : w.cell? ⟨b, o + 6, none⟩ = some (.slice p.wa p.o.words.length p.wc)
  c7 : w.cell? ⟨b, o + 7, none⟩ = some (.slice p.na p.l1.length p.nc)
  c8 : w.cell? ⟨b, o + 8, none⟩ = some (.slice p.oa p.l2.length p.oc)
theorem OpCells.keep {w w' : World} {b o : Nat} {p : Opn} (h : OpCells w b o p) (hb : w'.heap[b]? = w.heap[b]?) : OpCells w' b o p := by
  have e : ∀ i, w'.cell? ⟨b, i, none⟩ = w.cell? ⟨b, i, none⟩ := fun i => World.cell?_of_block (a := ⟨b, i, none⟩) hb
  exact ⟨(e _).trans h.c0, (e _).trans h.c1, (e _).trans h.c2, (e _).trans h.c3, (e _).trans h.c4, (e _).trans h.c5, (e _).trans h.c6, (e _).trans h.c7, (e _).trans h.c8⟩
/-- v is a slice of the operations l, all in blocks below B. -/
def Ops (B : Nat) (w : World) (v : Value) (l : List Opn) : Prop :=
  ∃ (A : Option Addr) (cap : Nat), v = .slice A l.length cap ∧ l.length ≤ cap ∧ cap ≤ maxLen ∧
    (0 < l.length → ∃ b o, A = some ⟨b, o, none⟩ ∧ b < B ∧ ∀ k p, l[k]? = some p → OpCells w b (o + k * 9) p) ∧ (∀ p ∈ l, OpOk B w p) ∧ l.length * 136 ≤ 140737488355328
theorem Ops.below {B : Nat} {w w' : World} {v : Value} {l : List Opn} (h : Ops B w v l) (hb : Below B w w') : Ops B w' v l := by
  obtain ⟨A, cap, rfl, h1, h2, h3, h4, h5⟩ := h
  refine ⟨A, cap, rfl, h1, h2, fun h0 => ?_, fun p hp => (h4 p hp).below hb, h5⟩
  obtain ⟨b, o, rfl, hl, hc⟩ := h3 h0
  exact ⟨b, o, rfl, hl, fun k p hp => (hc k p hp).keep (hb.block b hl)⟩
theorem Ops.shape {B : Nat} {w : World} {v : Value} {l : List Opn} (h : Ops B w v l) : ∃ A c, v = .slice A l.length c := by
  obtain ⟨A, cap, e, _⟩ := h
  exact ⟨A, cap, e⟩
theorem Ops.len {B : Nat} {w : World} {v : Value} {l : List Opn} (h : Ops B w v l) : l.length * 136 ≤ 140737488355328 := by
  obtain ⟨A, cap, e, h1, h2, h3, h4, h5⟩ := h
  exact h5
theorem Ops.at {B : Nat} {w : World} {A : Option Addr} {n c : Nat} {l : List Opn} (h : Ops B w (.slice A n c) l) {k : Nat} {p : Opn} (hk : l[k]? = some p) : ∃ b o, A = some ⟨b, o, none⟩ ∧ OpCells w b (o + k * 9) p ∧ OpOk B w p := by
  obtain ⟨A', cap, e, h1, h2, h3, h4, h5⟩ := h
  cases e
  have := (List.getElem?_eq_some_iff.1 hk).1
  obtain ⟨b, o, e, _, hc⟩ := h3 (by omega)
  exact ⟨b, o, e, hc k p hk, h4 p (List.mem_of_getElem? hk)⟩

/-- Whether an operation is bounded; whether a script is. -/
def okOp (p : Opn) : Bool := decide (p.l1.length ≤ 60) && decide (p.l2.length ≤ 60) && decide ((p.l1.map (·.a)).Nodup) && decide ((p.l2.map (·.a)).Nodup)
def bndB (l : List Opn) : Bool := decide (l.length ≤ 60) && l.all okOp

theorem bndB_no {l : List Opn} {k : Nat} {p : Opn} (hp : l[k]? = some p) (h : okOp p = false) : bndB l = false := by
  have : l.all okOp = false := List.all_eq_false.2 ⟨p, List.mem_of_getElem? hp, by simp [h]⟩
  simp [bndB, this]
theorem bndB_yes {l : List Opn} (h0 : l.length ≤ 60) (h : ∀ (k : Nat) (p : Opn), l[k]? = some p → okOp p = true) : bndB l = true := by
  have : l.all okOp = true := List.all_eq_true.2 fun p hp => by
    obtain ⟨k, hk⟩ := List.getElem?_of_mem hp
    exact h k p hk
  simp [bndB, this, h0]

set_option maxHeartbeats 2000000 in
theorem bounded_any (B : Nat) (w : World) (n m : Int) (v : Value) (l : List Opn) (h : Ops B w v l) (hB : B ≤ w.heap.size) :
    Calls Try.prog 23 #[.agg #[.int .i64 n, .int .i64 m, v]] w fun e w' => e = .returned (.bool (bndB l)) ∧ Below w.heap.size w w' := by
  obtain ⟨A, c, rfl⟩ := h.shape
  have hlen := h.len
  have H := Lib.hid h
  have BX := Lib.hid (show Below w.heap.size w (w.alloc (.cells #[.int .i64 n, .int .i64 m, .slice A l.length c] 41)) from (Below.refl _ _).alloc (Nat.le_refl _) _)
  have HX := Lib.hid (new0 w (.cells #[.int .i64 n, .int .i64 m, .slice A l.length c] 41))
  clear h
  by_cases hbig : 60 < l.length
  · have HF := Lib.hid (show bndB l = false by simp [bndB]; omega)
    go_enter Try.func23, Try.ntmps23
    go_wp2_with fail
    go_ret
    exact ⟨by rw [HF.out]; rfl, BX.out⟩
  · go_enter Try.func23, Try.ntmps23
    go_wp2_with fail
    go_loopw [3] (fun i wr => ∃ k : Nat, k ≤ l.length ∧ i = .int .i64 k ∧ (∀ j p, j < k → l[j]? = some p → okOp p = true) ∧ wr.heap[w.heap.size]? = some (.cells #[.int .i64 n, .int .i64 m, .slice A l.length c] 41) ∧ Below w.heap.size w wr) (fun i _ => l.length - (intOf i).toNat)
    case atStart => exact ⟨0, Nat.zero_le _, rfl, (fun j p hj => by omega), HX.out, BX.out⟩
    case round =>
      obtain ⟨k, hk, rfl, hgood, hx, hb⟩ := hrel
      have HG := Lib.hid hgood
      have HBW := Lib.hid hb
      have hsz := hb.size
      have hxl := heap_lt hx
      have cx := cellsH hx
      have XB := Lib.hid hx
      clear hgood hx
      by_cases hlt : k < l.length
      · obtain ⟨p, hp⟩ : ∃ p, l[k]? = some p := ⟨_, List.getElem?_eq_getElem hlt⟩
        obtain ⟨b, o, rfl, hat, hok⟩ := (H.out.below (hb.mono hB)).at hp
        obtain ⟨d0, d1, d2, d3, d4, d5, d6, d7, d8⟩ := hat
        have HP := Lib.hid hp
        have HOK := Lib.hid hok
        clear hp hok hb
        go_upto_region 7 with (fail)
        have rA := new0 wr (.cells p.arr 85)
        have bA : Below wr.heap.size wr (wr.alloc (.cells p.arr 85)) := (Below.refl _ _).alloc (Nat.le_refl _) _
        have RA := Lib.hid rA
        have BA := Lib.hid (below_then HBW.out hsz bA)
        have xA := old1 XB.out (.cells p.arr 85)
        have XA := Lib.hid xA
        have OKA := Lib.hid (HOK.out.below (bA.mono (by omega)))
        have cA := cellsH rA
        have zA : (wr.alloc (.cells p.arr 85)).heap.size = wr.heap.size + 1 := by simp
        clear rA bA xA d0 d1 d2 d3 d4 d5 d6 d7 d8 cx
        generalize wr.alloc (.cells p.arr 85) = wA at *
        by_cases a1 : 60 < p.l1.length
        · have HF := Lib.hid (bndB_no HP.out (show okOp p = false by simp [okOp]; omega))
          go_wp2_with fail
          go_ret
          exact ⟨by rw [HF.out]; rfl, BA.out⟩
        by_cases a2 : 60 < p.l2.length
        · have HF := Lib.hid (bndB_no HP.out (show okOp p = false by simp [okOp]; omega))
          go_wp2_with fail
          go_ret
          exact ⟨by rw [HF.out]; rfl, BA.out⟩
        go_wp2_with fail
        refine (distinct_any _ _ _ p.l1 OKA.out.n).mono ?_
        rintro e w2 ⟨rfl, n2, rfl⟩
        by_cases q1 : (p.l1.map (·.a)).Nodup
        · rw [decide_eq_true q1]
          have Q1 := Lib.hid q1
          clear q1
          have cB : ∀ i, (wA.drewN n2).cell? ⟨wr.heap.size, i, none⟩ = p.arr[i]? := cA
          have XA2 := Lib.hid (show (wA.drewN n2).heap[w.heap.size]? = _ from XA.out)
          have BA2 := Lib.hid (below_drewN BA.out n2)
          have OKA2 := Lib.hid (OKA.out.below (below_drewN (Below.refl B wA) n2))
          clear cA XA BA OKA RA
          have zA2 : (wA.drewN n2).heap.size = wr.heap.size + 1 := zA
          generalize wA.drewN n2 = wB at *
          go_wp2_with fail
          refine (distinct_any _ _ _ p.l2 OKA2.out.l).mono ?_
          rintro e w2 ⟨rfl, n3, rfl⟩
          by_cases q2 : (p.l2.map (·.a)).Nodup
          · rw [decide_eq_true q2]
            have Q2 := Lib.hid q2
            clear q2
            go_wp2_with fail
            go_roundw
            case rel =>
              refine ⟨k + 1, by omega, by go_num, ?_, XA2.out, below_drewN BA2.out n3⟩
              intro j q hj hq
              by_cases hjk : j = k
              · subst hjk
                rw [HP.out] at hq
                cases hq
                simp [okOp, Q1.out, Q2.out]
                omega
              · exact HG.out j q (by omega) hq
            case measure => simp [intOf]; omega
          · have HF := Lib.hid (bndB_no HP.out (show okOp p = false by simp [okOp, q2]))
            rw [decide_eq_false q2]
            clear q2
            go_wp2_with fail
            go_ret
            exact ⟨by rw [HF.out]; rfl, below_drewN BA2.out n3⟩
        · have HF := Lib.hid (bndB_no HP.out (show okOp p = false by simp [okOp, q1]))
          rw [decide_eq_false q1]
          clear q1
          go_wp2_with fail
          go_ret
          exact ⟨by rw [HF.out]; rfl, below_drewN BA.out n2⟩
      · have he : k = l.length := by omega
        have HT := Lib.hid (bndB_yes (l := l) (by omega) (fun j p hp => HG.out j p (by have := (List.getElem?_eq_some_iff.1 hp).1; omega) hp))
        clear he hb
        go_wp2_with fail
        go_ret
        exact ⟨by rw [HT.out]; rfl, HBW.out⟩
end Go.Proofs.Ytobniolmielikaa
