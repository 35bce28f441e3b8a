/- Contracts of the heap's methods New, Alloc, Get, Set, Room; no condition. -/
import Derived.Test.YtobniolmielikaaHeap1
import Derived.Deep.QuietTactic
import Derived.BigQuiet
import Derived.Deep.RegionWith
namespace Go.Proofs.Ytobniolmielikaa
open Go.RowKit

/-- The contents of a heap. -/
structure HM where
  nur : Int
  eld : Int
  next : Int
  ly : List (Int × Ob)
  la : List (Int × Ob)

/-- Block b is a map of objects that reads as m. -/
def ObjMap (w : World) (b : Nat) (m : List (Int × Ob)) : Prop := ∃ l, MapAt w b l ∧ Kin (ObR 0 w) l m

/-- h, y, a: the blocks of a heap with the contents H. -/
structure HeapAt (w : World) (h y a : Nat) (H : HM) : Prop where
  row : w.heap[h]? = some (.cells #[.map (some y), .map (some a), .int .i64 H.nur, .int .i64 H.eld, .int .i64 H.next] 54)
  young : ObjMap w y H.ly
  old : ObjMap w a H.la
  ne : y ≠ a

theorem ObjMap.turn {S : Nat → Prop} {w w' : World} {b : Nat} {m : List (Int × Ob)} (h : ObjMap w b m) (ht : Turn S w w') (hb : ¬ S b) (hn : ∀ k, IsRow 3 w k → ¬ S k) : ObjMap w' b m := by
  obtain ⟨l, h1, h2⟩ := h
  exact ⟨l, h1.turn ht hb, h2.imp fun x y r => r.turn ht (fun k _ hk => hn k hk)⟩
theorem ObjMap.fresh {w w' : World} {b : Nat} {m : List (Int × Ob)} (h : ObjMap w b m) (hb : Below w.heap.size w w') : ObjMap w' b m := by
  obtain ⟨l, h1, h2⟩ := h
  exact ⟨l, h1.below hb h1.lt, h2.imp fun x y r => r.fresh hb⟩
theorem HeapAt.fresh {w w' : World} {h y a : Nat} {H : HM} (hh : HeapAt w h y a H) (hb : Below w.heap.size w w') : HeapAt w' h y a H :=
  ⟨rowB hb hh.row (heap_lt hh.row), hh.young.fresh hb, hh.old.fresh hb, hh.ne⟩
theorem HeapAt.turn {S : Nat → Prop} {w w' : World} {h y a : Nat} {H : HM} (hh : HeapAt w h y a H) (ht : Turn S w w') (h1 : ¬ S h) (h2 : ¬ S y) (h3 : ¬ S a) (hn : ∀ k, IsRow 3 w k → ¬ S k) : HeapAt w' h y a H :=
  ⟨rowT ht hh.row h1, hh.young.turn ht h2 hn, hh.old.turn ht h3 hn, hh.ne⟩

/-- The blocks of a heap. -/
def HB (h y a : Nat) (k : Nat) : Prop := k = h ∨ k = y ∨ k = a
theorem HeapAt.notRow {w : World} {h y a : Nat} {H : HM} (hh : HeapAt w h y a H) : ∀ k, IsRow 3 w k → ¬ HB h y a k := by
  rintro k ⟨cs, f, hk⟩ (rfl | rfl | rfl)
  · rw [hh.row] at hk; simp at hk
  · obtain ⟨l, ⟨es, c, h1, _⟩, _⟩ := hh.young; rw [h1] at hk; simp at hk
  · obtain ⟨l, ⟨es, c, h1, _⟩, _⟩ := hh.old; rw [h1] at hk; simp at hk

theorem zero25 (w : World) : (zeroValue 25).run Try.prog w = .ok (.agg #[.int .i64 0, .int .i64 0, .int .i64 0, .slice none 0 0, .slice none 0 0]) w := by kernel_rfl

set_option maxHeartbeats 400000 in
theorem made_any (h y : Nat) (w : World) (hc : w.cell? ⟨h, 0, none⟩ = some (.map (some y))) :
    Calls Try.prog 52 #[.pointer (some ⟨h, 0, none⟩)] w fun e w' => e = .returned (.bool true) ∧ w' = w := by
  have hn := fun w => run_neq_map_nil (P := Try.prog) w 52 3 25 (some y) Try.underlying52
  go_enter Try.func52, Try.ntmps52
  go_wp2
  go_ret
  exact ⟨rfl, rfl⟩

/-- What New makes of two sizes. -/
def newOk (n o : Int) : Bool := decide (1 ≤ n) && decide (n ≤ 65536) && decide (1 ≤ o) && decide (o ≤ 65536)

set_option maxHeartbeats 400000 in
theorem new_no (n o : Int) (w : World) (h : newOk n o = false) : Calls Try.prog 15 #[.int .i64 n, .int .i64 o] w fun e w' => e = .returned (.tuple #[.pointer none, .int .i64 39]) ∧ w' = w := by
  have hg : n < 1 ∨ (1 ≤ n ∧ 65536 < n) ∨ (1 ≤ n ∧ n ≤ 65536 ∧ o < 1) ∨ (1 ≤ n ∧ n ≤ 65536 ∧ 1 ≤ o ∧ 65536 < o) := by simp [newOk] at h; omega
  clear h
  rcases hg with g | ⟨g, g'⟩ | ⟨g1, g2, g3⟩ | ⟨g1, g2, g3, g4⟩ <;> (go_enter Try.func15, Try.ntmps15; go_wp2; go_ret2; exact ⟨rfl, rfl⟩)

set_option maxHeartbeats 400000 in
theorem new_yes (n o : Int) (w : World) (h : newOk n o = true) : Calls Try.prog 15 #[.int .i64 n, .int .i64 o] w fun e w' => ∃ h y a, e = .returned (.tuple #[.pointer (some ⟨h, 0, none⟩), .int .i64 0]) ∧
    HeapAt w' h y a ⟨n, o, 0, [], []⟩ ∧ w.heap.size ≤ h ∧ w.heap.size ≤ y ∧ w.heap.size ≤ a ∧ Below w.heap.size w w' := by
  have hg : 1 ≤ n ∧ n ≤ 65536 ∧ 1 ≤ o ∧ o ≤ 65536 := by simp [newOk] at h; omega
  clear h
  obtain ⟨g1, g2, g3, g4⟩ := hg
  have hmm := @run_makeMap Try.prog
  go_enter Try.func15, Try.ntmps15
  go_wp2
  go_ret2
  refine ⟨w.heap.size + 1 + 1, w.heap.size, w.heap.size + 1, rfl, ⟨new32 _ _ _ _, ⟨[], (((MapAt.made w).alloc _).alloc _), .nil⟩, ⟨[], ?_, .nil⟩, by omega⟩, by omega, by omega, by omega, ?_⟩
  · have := (MapAt.made (w.alloc (.map #[] 0))).alloc (.cells #[.map (some w.heap.size), .map (some (w.heap.size + 1)), .int .i64 n, .int .i64 o, .int .i64 0] 54)
    simpa using this
  · exact (((Below.refl w.heap.size w).alloc (Nat.le_refl _) _).alloc (by simp) _).alloc (by simp <;> omega) _
set_option maxHeartbeats 400000 in
theorem room_any (w : World) (h y a : Nat) (H : HM) (hh : HeapAt w h y a H) :
    Calls Try.prog 20 #[.pointer (some ⟨h, 0, none⟩)] w fun e w' => e = .returned (.int .i64 (wrap64 (H.nur - H.ly.length))) ∧ ∃ n, w' = w.drewN n := by
  obtain ⟨ly, hm, hk⟩ := hh.young
  have hl := hk.length
  have c := cellsH hh.row
  have c0 : w.cell? ⟨h, 0, none⟩ = some (.map (some y)) := c 0
  have c2 : w.cell? ⟨h, 2, none⟩ = some (.int .i64 H.nur) := c 2
  have M := Lib.hid (made_any h y w c0)
  rw [← hl]
  clear hl hk hh c
  have hlen := fun n ty => run_len_map (P := Try.prog) (k := 3) (e := 25) Try.underlying52 (hm.drewN n) ty
  have hlen0 := fun ty => run_len_map (P := Try.prog) (k := 3) (e := 25) Try.underlying52 hm ty
  go_enter Try.func20, Try.ntmps20
  go_wp2_with fail
  refine M.out.mono ?_
  rintro e w' ⟨rfl, rfl⟩
  go_wp2_with fail
  go_quiet (fail)
  go_wp2_with fail
  go_ret
  exact ⟨rfl, nq, rfl⟩

theorem below_turn {w w' : World} (hb : Below w.heap.size w w') (S : Nat → Prop) : Turn S w w' := turn_of_below hb fun k h1 h2 => by omega

theorem undrew {w w' : World} (h : Below w.drew.heap.size w.drew w') : Below w.heap.size w w' := ⟨h.os, h.tape, h.output, h.size, h.block⟩
theorem HeapAt.hy {w : World} {h y a : Nat} {H : HM} (hh : HeapAt w h y a H) : h ≠ y := by
  rintro rfl
  obtain ⟨l, ⟨es, c, h1, _⟩, _⟩ := hh.young
  rw [hh.row] at h1; simp at h1
theorem HeapAt.ha {w : World} {h y a : Nat} {H : HM} (hh : HeapAt w h y a H) : h ≠ a := by
  rintro rfl
  obtain ⟨l, ⟨es, c, h1, _⟩, _⟩ := hh.old
  rw [hh.row] at h1; simp at h1
theorem intrude {S : Nat → Prop} {w w' : World} {h y a : Nat} (hs : ∀ k, S k → HB h y a k) (ht : Turn S w w') : Turn (HB h y a) w w' := ht.mono fun k _ => hs k

/-- What Alloc answers, and the heap behind it. -/
def HM.alloc (H : HM) (o : Ob) : Int × Int × HM :=
  if vld o = true then (if H.nur ≤ H.ly.length then (0, 33, H) else (H.next, 0, { H with ly := put H.ly H.next o, next := wrap64 (H.next + 1) })) else (0, 1, H)

set_option maxHeartbeats 400000 in
theorem alloc_any (ok : Nat → Prop) (w : World) (h y a : Nat) (H : HM) (v : Value) (o : Ob) (hh : HeapAt w h y a H) (ho : ObAt ok w v o) :
    Calls Try.prog 16 #[.pointer (some ⟨h, 0, none⟩), v] w fun e w' => e = .returned (.tuple #[.int .i64 (H.alloc o).1, .int .i64 (H.alloc o).2.1]) ∧ HeapAt w' h y a (H.alloc o).2.2 ∧ Turn (HB h y a) w w' := by
  have hlt := heap_lt hh.row
  have c := cellsH hh.row
  have c0 : w.cell? ⟨h, 0, none⟩ = some (.map (some y)) := c 0
  clear c
  have HH := Lib.hid hh
  have ho0 := ho
  obtain ⟨rv, wv, rfl, h1, h2⟩ := ho
  obtain ⟨ra, rc, rfl⟩ := h1.shape
  obtain ⟨wa, wc, rfl⟩ := h2.shape
  have HO := Lib.hid ho0
  clear ho0 h1 h2 hh
  have c0' := cellAlloc c0
  have M := Lib.hid (fun o => made_any h y (w.alloc o) (c0' o))
  clear c0 c0'
  by_cases hv : vld o = true
  · have HV := Lib.hid hv
    by_cases hfull : H.nur ≤ H.ly.length
    · have HA := Lib.hid (show H.alloc o = (0, 33, H) by simp [HM.alloc, hv, hfull])
      have HF := Lib.hid hfull
      clear hv hfull
      go_enter Try.func16, Try.ntmps16
      go_wp2_with fail
      refine (M.out _).mono ?_
      rintro e w1 ⟨rfl, rfl⟩
      go_wp2_with fail
      refine (valid_any ok _ o _ (HO.out.fresh ((Below.refl _ _).alloc (Nat.le_refl _) _))).mono ?_
      rintro e w2 ⟨rfl, hb⟩
      rw [HV.out]
      have hb2 := below_then ((Below.refl _ _).alloc (Nat.le_refl _) _) (by simp) hb
      have hh2 := HH.out.fresh hb2
      have c := cellsH hh2.row
      have c0 : w2.cell? ⟨h, 0, none⟩ = some (.map (some y)) := c 0
      have c2 : w2.cell? ⟨h, 2, none⟩ = some (.int .i64 H.nur) := c 2
      clear c
      obtain ⟨ly, hm, hk⟩ := hh2.young
      have hf : H.nur ≤ (ly.length : Int) := by rw [hk.length]; exact HF.out
      clear hk hh2
      have hlen := fun n ty => run_len_map (P := Try.prog) (k := 3) (e := 25) Try.underlying52 (hm.drewN n) ty
      have hlen0 := fun ty => run_len_map (P := Try.prog) (k := 3) (e := 25) Try.underlying52 hm ty
      go_wp2_with fail
      go_quiet (fail)
      go_wp2_with fail
      go_ret2
      rw [HA.out]
      have hb3 : Below w.heap.size w (w2.drewN nq) := below_drewN hb2 nq
      exact ⟨rfl, HH.out.fresh hb3, below_turn hb3 _⟩
    · have HA := Lib.hid (show H.alloc o = (H.next, 0, { H with ly := put H.ly H.next o, next := wrap64 (H.next + 1) }) by simp [HM.alloc, hv, hfull])
      have HF := Lib.hid hfull
      clear hv hfull
      go_enter Try.func16, Try.ntmps16
      go_wp2_with fail
      refine (M.out _).mono ?_
      rintro e w1 ⟨rfl, rfl⟩
      go_wp2_with fail
      refine (valid_any ok _ o _ (HO.out.fresh ((Below.refl _ _).alloc (Nat.le_refl _) _))).mono ?_
      rintro e w2 ⟨rfl, hb⟩
      rw [HV.out]
      have hbox := rowB hb (new0 _ _) (by simp)
      have hb2 := below_then ((Below.refl _ _).alloc (Nat.le_refl _) _) (by simp) hb
      have hh2 := HH.out.fresh hb2
      have c := cellsH hh2.row
      have c0 : w2.cell? ⟨h, 0, none⟩ = some (.map (some y)) := c 0
      have c2 : w2.cell? ⟨h, 2, none⟩ = some (.int .i64 H.nur) := c 2
      have c4 : w2.cell? ⟨h, 4, none⟩ = some (.int .i64 H.next) := c 4
      clear c
      obtain ⟨ly, hm, hk⟩ := hh2.young
      have hf : (ly.length : Int) < H.nur := by rw [hk.length]; have := HF.out; omega
      have HK := Lib.hid hk
      have HH2 := Lib.hid hh2
      clear hk hh2
      have hlen := fun n ty => run_len_map (P := Try.prog) (k := 3) (e := 25) Try.underlying52 (hm.drewN n) ty
      have hlen0 := fun ty => run_len_map (P := Try.prog) (k := 3) (e := 25) Try.underlying52 hm ty
      go_wp2_with fail
      go_quiet (fail)
      clear hlen hlen0
      go_wp2_with fail
      clear hm c0 c2 c4
      have hb3 : Below w.heap.size w (w2.drewN nq) := below_drewN hb2 nq
      have hbox3 : (w2.drewN nq).heap[w.heap.size]? = _ := hbox
      have hlt3 : w.heap.size < (w2.drewN nq).heap.size := heap_lt hbox
      clear hbox hb2 hb HH2 HK
      generalize w2.drewN nq = w3 at *
      have HH3 := Lib.hid (HH.out.fresh hb3)
      have B3 := Lib.hid hb3
      have X3 := Lib.hid hbox3
      have c := cellsH HH3.out.row
      have d := cellsH hbox3
      have c0 : w3.cell? ⟨h, 0, none⟩ = some (.map (some y)) := c 0
      clear hb3 hbox3 c
      go_region_with (go_at_call 54; refine (copied_any ok _ o _ (by exact (HO.out.fresh B3.out.drew))).mono ?_; rintro e w4 ⟨v', rfl, hov, hb4⟩; have HV4 := Lib.hid hov; have B4 := Lib.hid hb4; have c4 : w4.cell? ⟨h, 0, none⟩ = some (.map (some y)) := (hb4.cell (by simp <;> omega)).trans c0; clear hov hb4; have HH4 := Lib.hid (HH3.out.fresh (undrew B4.out)); obtain ⟨ly', hm', hk'⟩ := HH4.out.young; have HK4 := Lib.hid hk'; clear hk'; obtain ⟨w5, hrun, hm5, ht5, hs5⟩ := run_update_map (P := Try.prog) (k := 3) (e := 25) Try.underlying52 Try.underlying3 hm' H.next v'; have HM5 := Lib.hid hm5; have HT5 := Lib.hid ht5; have HS5 := Lib.hid hs5; clear hm' hm5 ht5 hs5)
      all_goals
        have HR5 := Lib.hid (rowT HT5.out HH4.out.row HH4.out.hy)
        have c := cellsH HR5.out
        have f4 := freeH HR5.out 4
        have c4 : w5.cell? ⟨h, 4, none⟩ = some (.int .i64 H.next) := c 4
        clear c
        go_wp2_with fail
        go_ret2
        rw [HA.out]
        have T : Turn (fun k => k = h ∨ k = y) w4 (w5.setCell ⟨h, 4, none⟩ (.int .i64 (wrap64 (H.next + 1)))) := (HT5.out.mono fun k _ hk => .inr hk).setCell (.inl rfl) _
        have hn := HH4.out.notRow
        have hnr : ∀ k, IsRow 3 w4 k → ¬ (k = h ∨ k = y) := fun k hk hs => hn k hk (by rcases hs with hs | hs <;> simp [HB, hs])
        refine ⟨rfl, ⟨rowSet HR5.out 4 _, ⟨_, HM5.out.setCell HH4.out.hy.symm _, Kin.put (HK4.out.imp fun x y r => r.turn T fun k _ => hnr k) _ ((HV4.out.base (Nat.zero_le _)).turn T fun k _ => hnr k)⟩, HH4.out.old.turn T (fun e => by rcases e with e | e; exact HH4.out.ha e.symm; exact HH4.out.ne e.symm) hnr, HH4.out.ne⟩, ?_⟩
        refine Turn.trans (Turn.trans (below_turn B3.out _) (below_turn (undrew B4.out) _)) (T.mono fun k _ hk => ?_)
        rcases hk with hk | hk <;> simp [HB, hk]
  · have hv' : vld o = false := by simpa using hv
    have HA := Lib.hid (show H.alloc o = (0, 1, H) by simp [HM.alloc, hv'])
    have HV := Lib.hid hv'
    clear hv hv'
    go_enter Try.func16, Try.ntmps16
    go_wp2_with fail
    refine (M.out _).mono ?_
    rintro e w1 ⟨rfl, rfl⟩
    go_wp2_with fail
    refine (valid_any ok _ o _ (HO.out.fresh ((Below.refl _ _).alloc (Nat.le_refl _) _))).mono ?_
    rintro e w2 ⟨rfl, hb⟩
    rw [HV.out]
    go_wp2_with fail
    go_ret2
    rw [HA.out]
    have hb2 := below_then ((Below.refl _ _).alloc (Nat.le_refl _) _) (by simp) hb
    exact ⟨rfl, HH.out.fresh hb2, below_turn hb2 _⟩
end Go.Proofs.Ytobniolmielikaa
