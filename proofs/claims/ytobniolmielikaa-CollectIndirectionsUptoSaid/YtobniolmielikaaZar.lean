/- Texts of the collector's proof, joined: Like, Int, Lev1, AwkP, Small, Lev2, MinNil, Awk1. -/
import Derived.Test.YtobniolmielikaaZaq
import Derived.Test.YtobniolmielikaaZai
import Derived.Test.YtobniolmielikaaZao
import Derived.Test.YtobniolmielikaaZap
/- The collector's law: like; no condition. -/
namespace Go.Proofs.Ytobniolmielikaa
open Go.RowKit

/-- Two heaps that are alike. -/
structure Alike (H : HM) (R : RM) : Prop where
  wel : Wel H
  rwel : RWel R
  addrs : H.addrs = R.addrs
  get : ∀ x, R.get x = H.get x
  old : ∀ x, (Go.Proofs.Ytobniolmielikaa.get (keyed R.a) x).isSome = (Go.Proofs.Ytobniolmielikaa.get H.la x).isSome

set_option maxRecDepth 4000 in
set_option maxHeartbeats 4000000 in
theorem like_any (B : Nat) (w : World) (h y a r : Nat) (NV AV : Value) (H : HM) (R : RM) (t : Two B w h y a r NV AV H R) (al : Alike H R) :
    Calls Try.prog 42 #[.pointer (some ⟨h, 0, none⟩), .pointer (some ⟨r, 0, none⟩)] w fun e w' => e = .returned (.bool true) ∧ Below w.heap.size w w' := by
  have T0 := Lib.hid t
  have AL := Lib.hid al
  have hll := al.wel.ly
  have hll2 := al.wel.n2
  have hla := al.wel.la
  have hla2 := al.wel.e2
  clear t al
  go_enter Try.func42, Try.ntmps42
  go_wp2_with fail
  refine (raddrs_any B w r NV AV R T0.out.q AL.out.rwel.kn AL.out.rwel.ka).mono ?_
  rintro e w1 ⟨u1, rfl, hu, hb1⟩
  rw [← AL.out.addrs] at hu
  obtain ⟨A1, k1, rfl⟩ := hu.shape
  have U1 := Lib.hid (Ints.mono hu (ok' := fun _ => True) (fun _ _ _ => trivial))
  have B1 := Lib.hid hb1
  clear hu hb1
  go_wp2_with fail
  refine (addrs_any w1 h y a H (T0.out.p.fresh B1.out) AL.out.wel.ky AL.out.wel.ka (by omega) (by omega)).mono ?_
  rintro e w2 ⟨u2, rfl, hu, hb2⟩
  obtain ⟨A2, k2, rfl⟩ := hu.shape
  have hul := Ints.len hu
  have U2 := Lib.hid hu
  have U12 := Lib.hid (U1.out.fresh hb2)
  have B2 := Lib.hid (below_then B1.out B1.out.size hb2)
  clear hu hb2
  go_wp2_with fail
  refine (sameInts_any _ _ _ _ _ _ U2.out U12.out).mono ?_
  rintro e wz ⟨rfl, nz, hwz⟩
  have BZ := Lib.hid (show Below w.heap.size w wz by rw [hwz]; exact below_drewN B2.out nz)
  have UZ := Lib.hid (show Ints (fun _ => True) wz _ H.addrs by rw [hwz]; exact U12.out.fresh (below_drewN (Below.refl _ _) nz))
  clear hwz
  go_wp2_with fail
  go_loopw [6] (fun i W => ∃ k : Nat, k ≤ H.addrs.length ∧ i = .int .i64 k ∧ Below wz.heap.size wz W) (fun i _ => H.addrs.length - (intOf i).toNat)
  case atStart => exact ⟨0, Nat.zero_le _, rfl, Below.refl _ _⟩
  case round =>
    obtain ⟨k, hk, rfl, hb⟩ := hrel
    have HB := Lib.hid hb
    have BW := Lib.hid (below_then BZ.out BZ.out.size hb)
    have UW := Lib.hid (UZ.out.fresh hb)
    have zb := hb.size
    clear hb
    by_cases hlt : k < H.addrs.length
    · obtain ⟨ad, eA, hc⟩ := Ints.cell UW.out hlt
      have hgi := get_in (List.getElem_mem hlt)
      generalize H.addrs[k] = z at hc hgi
      have HLT := Lib.hid hlt
      have HGI := Lib.hid hgi
      subst eA
      clear hgi
      go_wp2_with fail
      refine (get_any _ h y a H z (T0.out.p.fresh BW.out)).mono ?_
      rintro e w12 ⟨v12, rfl, hv, hb⟩
      obtain ⟨ra1, rc1, wa1, wc1, rfl⟩ := hv.open
      have bz : Below w12.heap.size w12 (w12.alloc (.cells #[.int .i64 (H.get z).1.op, .int .i64 (H.get z).1.n, .int .i64 (H.get z).1.ar, .slice ra1 (H.get z).1.refs.length rc1, .slice wa1 (H.get z).1.words.length wc1] 25)) := (Below.refl _ _).alloc (Nat.le_refl _) _
      have y12 := new0 w12 (.cells #[.int .i64 (H.get z).1.op, .int .i64 (H.get z).1.n, .int .i64 (H.get z).1.ar, .slice ra1 (H.get z).1.refs.length rc1, .slice wa1 (H.get z).1.words.length wc1] 25)
      have b12 := below_then hb hb.size bz
      have V13 := Lib.hid (hv.fresh bz)
      have HB13 := Lib.hid (below_then HB.out zb b12)
      have BW13 := Lib.hid (below_then BW.out BW.out.size b12)
      have hc13 := cellBelow hc b12 (World.block_lt_of_cell? _ _ hc)
      have Y13 := Lib.hid y12
      go_upto_region 8 with (fail)
      clear hv hb bz y12 b12 hc
      generalize w12.alloc (.cells #[.int .i64 (H.get z).1.op, .int .i64 (H.get z).1.n, .int .i64 (H.get z).1.ar, .slice ra1 (H.get z).1.refs.length rc1, .slice wa1 (H.get z).1.words.length wc1] 25) = w13 at V13 HB13 BW13 hc13 Y13 ⊢
      rw [HGI.out]
      go_wp2_with fail
      refine (rget_any B w13 r NV AV R z (T0.out.q.fresh BW13.out)).mono ?_
      rintro e w14 ⟨v14, rfl, hv, hb⟩
      have eg : R.get z = H.get z := AL.out.get z
      rw [eg] at hv ⊢
      rw [HGI.out]
      obtain ⟨ra2, rc2, wa2, wc2, rfl⟩ := hv.open
      have bz : Below w14.heap.size w14 (w14.alloc (.cells #[.int .i64 (H.get z).1.op, .int .i64 (H.get z).1.n, .int .i64 (H.get z).1.ar, .slice ra2 (H.get z).1.refs.length rc2, .slice wa2 (H.get z).1.words.length wc2] 25)) := (Below.refl _ _).alloc (Nat.le_refl _) _
      have y14 := new0 w14 (.cells #[.int .i64 (H.get z).1.op, .int .i64 (H.get z).1.n, .int .i64 (H.get z).1.ar, .slice ra2 (H.get z).1.refs.length rc2, .slice wa2 (H.get z).1.words.length wc2] 25)
      have b14 := below_then hb hb.size bz
      have V15 := Lib.hid (hv.fresh bz)
      have V135 := Lib.hid (V13.out.fresh b14)
      have HB15 := Lib.hid (below_then HB13.out HB13.out.size b14)
      have BW15 := Lib.hid (below_then BW13.out BW13.out.size b14)
      have hc15 := cellBelow hc13 b14 (World.block_lt_of_cell? _ _ hc13)
      have Y15 := Lib.hid y14
      have Y135 := Lib.hid (rowB b14 Y13.out (heap_lt Y13.out))
      go_upto_region 9 with (fail)
      clear hv hb bz y14 b14 hc13 eg
      generalize w14.alloc (.cells #[.int .i64 (H.get z).1.op, .int .i64 (H.get z).1.n, .int .i64 (H.get z).1.ar, .slice ra2 (H.get z).1.refs.length rc2, .slice wa2 (H.get z).1.words.length wc2] 25) = w15 at V15 V135 HB15 BW15 hc15 Y15 Y135 ⊢
      have i0 := boxCells (show w15.drew.heap[w12.heap.size]? = _ from Y135.out)
      have j0 := boxCells (show w15.drew.heap[w14.heap.size]? = _ from Y15.out)
      have m0 : w15.drew.cell? (ad.add k) = some (.int .i64 z) := hc15
      have EOLD := Lib.hid (AL.out.old z)
      have z15 := BW15.out.size
      have HC15 := Lib.hid hc15
      clear hc15
      go_region_held3 (fun w' => (w'.cell? ⟨w12.heap.size, 0, none⟩ = some (.int .i64 (H.get z).1.op) ∧ w'.cell? ⟨w12.heap.size, 1, none⟩ = some (.int .i64 (H.get z).1.n) ∧ w'.cell? ⟨w12.heap.size, 2, none⟩ = some (.int .i64 (H.get z).1.ar) ∧ w'.cell? ⟨w12.heap.size, 3, none⟩ = some (.slice ra1 (H.get z).1.refs.length rc1) ∧ w'.cell? ⟨w12.heap.size, 4, none⟩ = some (.slice wa1 (H.get z).1.words.length wc1)) ∧ (w'.cell? ⟨w14.heap.size, 0, none⟩ = some (.int .i64 (H.get z).1.op) ∧ w'.cell? ⟨w14.heap.size, 1, none⟩ = some (.int .i64 (H.get z).1.n) ∧ w'.cell? ⟨w14.heap.size, 2, none⟩ = some (.int .i64 (H.get z).1.ar) ∧ w'.cell? ⟨w14.heap.size, 3, none⟩ = some (.slice ra2 (H.get z).1.refs.length rc2) ∧ w'.cell? ⟨w14.heap.size, 4, none⟩ = some (.slice wa2 (H.get z).1.words.length wc2)) ∧ w'.cell? (ad.add k) = some (.int .i64 z))
        (first | with_reducible exact ⟨i0, j0, m0⟩ | with_reducible exact ⟨i1, j1, m1⟩ | with_reducible exact ⟨i2, j2, m2⟩)
        (first
          | (go_at_call 21; refine (sameObj_any _ _ _ _ _ (H.get z).1 (V135.out.fresh (Below.refl _ _).drew).at (V15.out.fresh (Below.refl _ _).drew).at).mono ?_; rintro e w16 ⟨rfl, hb16⟩; have hb16 := undrew hb16; have BW16 := Lib.hid (below_then BW15.out z15 hb16); have HB16 := Lib.hid (below_then HB15.out HB15.out.size hb16); have y1 := rowB hb16 Y135.out (heap_lt Y135.out); have y2 := rowB hb16 Y15.out (heap_lt Y15.out); have i1 := boxCells y1; have j1 := boxCells y2; have m1 := cellBelow HC15.out hb16 (World.block_lt_of_cell? _ _ HC15.out); have Y1 := Lib.hid y1; have Y2 := Lib.hid y2; clear hb16 y1 y2)
          | (go_at_call 27; refine (old_any _ h y a H z (T0.out.p.fresh BW16.out)).mono ?_; rintro e w17 ⟨rfl, hb17⟩; have BW17 := Lib.hid (below_then BW16.out BW16.out.size hb17); have HB17 := Lib.hid (below_then HB16.out HB16.out.size hb17); have i2 := boxCells (rowB hb17 Y1.out (heap_lt Y1.out)); have j2 := boxCells (rowB hb17 Y2.out (heap_lt Y2.out)); have m2 := cellBelow m1 hb17 (World.block_lt_of_cell? _ _ m1); clear hb17)
          | (go_at_call 64; refine (rold_any B w17 r NV AV R z (T0.out.q.fresh BW17.out)).mono ?_; rintro e w18 ⟨rfl, rfl⟩; rw [EOLD.out]))
      clear i0 j0 m0 i1 j1 m1 i2 j2 m2
      rename_i hHeld
      clear hHeld
      go_wp2_with fail
      go_roundw
      case rel => exact ⟨k + 1, by have := HLT.out; omega, by go_num, HB17.out⟩
      case measure => have := HLT.out; simp [intOf]; omega
    · clear hk
      go_wp2_with fail
      go_ret
      exact ⟨rfl, BW.out⟩
end Go.Proofs.Ytobniolmielikaa

/- The collector's law: integer; no condition. -/
namespace Go.Proofs.Ytobniolmielikaa
open Go.RowKit

set_option maxHeartbeats 1000000 in
theorem integer_any (n : Int) (w : World) : Calls Try.prog 69 #[.int .i64 n] w fun e w' => e = .returned (.agg #[.int .i64 1, .int .i64 n, .int .i64 0, .slice none 0 0, .slice none 0 0]) ∧ Below w.heap.size w w' := by
  have HZ := Lib.hid (new0 w (.cells #[.int .i64 0, .int .i64 0, .int .i64 0, .slice none 0 0, .slice none 0 0] 25))
  have B0 := Lib.hid ((Below.refl w.heap.size w).alloc (Nat.le_refl _) (.cells #[.int .i64 0, .int .i64 0, .int .i64 0, .slice none 0 0, .slice none 0 0] 25))
  have cz := cellsH HZ.out
  have fz := freeH HZ.out
  generalize hwz : w.alloc (.cells #[.int .i64 0, .int .i64 0, .int .i64 0, .slice none 0 0, .slice none 0 0] 25) = wz at *
  have HWZ := Lib.hid hwz
  clear hwz
  go_enter Try.func69, Try.ntmps69
  go_upto_region 1 with fail
  rw [HWZ.out]
  go_wp2_with fail
  clear cz fz
  have c := cellsH (set5_row HZ.out (.int .i64 1) (.int .i64 n) (.int .i64 0) (.slice none 0 0) (.slice none 0 0))
  unfold set5 at c
  refine bodyPost_ret (v := .agg #[.int .i64 1, .int .i64 n, .int .i64 0, .slice none 0 0, .slice none 0 0]) (by simp [results, Try.results69, go_sem, c]) rfl ?_
  exact ⟨rfl, set5_below B0.out (Nat.le_refl _) _ _ _ _ _⟩
end Go.Proofs.Ytobniolmielikaa

/- The law level on lists: two heaps that read the same collect the same, and what a collection leaves is a heap again; no program in sight; no condition. -/
namespace Go.Proofs.Ytobniolmielikaa
open Go.RowKit

/-- Two heaps that read the same. -/
structure Sim (H G : HM) : Prop where
  nur : G.nur = H.nur
  eld : G.eld = H.eld
  ly : H.ly.Perm G.ly
  la : H.la.Perm G.la
  nd : (H.all.map (·.1)).Nodup
theorem Sim.all {H G : HM} (s : Sim H G) : H.all.Perm G.all := s.ly.append s.la
theorem Sim.nd' {H G : HM} (s : Sim H G) : (G.all.map (·.1)).Nodup := (s.all.map _).nodup_iff.1 s.nd
theorem Sim.get {H G : HM} (s : Sim H G) (x : Int) : Go.Proofs.Ytobniolmielikaa.get H.all x = Go.Proofs.Ytobniolmielikaa.get G.all x := get_perm s.all s.nd x
theorem Sim.nda {H G : HM} (s : Sim H G) : (H.la.map (·.1)).Nodup := by
  have := s.nd
  unfold HM.all at this
  rw [List.map_append] at this
  exact (List.nodup_append.1 this).2.1
theorem Sim.ndy {H G : HM} (s : Sim H G) : (H.ly.map (·.1)).Nodup := by
  have := s.nd
  unfold HM.all at this
  rw [List.map_append] at this
  exact (List.nodup_append.1 this).1
theorem Sim.gla {H G : HM} (s : Sim H G) (x : Int) : Go.Proofs.Ytobniolmielikaa.get H.la x = Go.Proofs.Ytobniolmielikaa.get G.la x := get_perm s.la s.nda x
theorem Sim.gly {H G : HM} (s : Sim H G) (x : Int) : Go.Proofs.Ytobniolmielikaa.get H.ly x = Go.Proofs.Ytobniolmielikaa.get G.ly x := get_perm s.ly s.ndy x
theorem Sim.getS {H G : HM} (s : Sim H G) (x : Int) : H.get x = G.get x := by
  unfold HM.get
  rw [s.gly, s.gla]
theorem Sim.ob {H G : HM} (s : Sim H G) : H.ob = G.ob := by
  funext a
  unfold HM.ob
  rw [s.get]
theorem Sim.has {H G : HM} (s : Sim H G) : H.has = G.has := by
  funext a
  unfold HM.has
  rw [s.get]
theorem Sim.yng {H G : HM} (s : Sim H G) : H.yng = G.yng := by
  funext a
  unfold HM.yng
  rw [s.gla]
theorem Sim.top {H G : HM} (s : Sim H G) : H.top = G.top := by
  unfold HM.top
  exact nxt_perm s.all
theorem Sim.fuel {H G : HM} (s : Sim H G) (t : List Int) : H.fuel t = G.fuel t := by
  unfold HM.fuel
  rw [vol_perm s.all]
theorem Sim.addrs {H G : HM} (s : Sim H G) : H.addrs = G.addrs := by
  unfold HM.addrs keysOf
  exact srt_perm ((s.ly.map _).append (s.la.map _))
theorem Sim.rem {H G : HM} (s : Sim H G) : H.rem = G.rem := by
  have e1 : (fun p : Int × Ob => refsTo H.ly p.2) = fun p => refsTo G.ly p.2 := by
    funext p
    unfold refsTo
    congr 1
    funext x
    rw [s.gly]
  unfold HM.rem
  rw [e1]
  exact srt_perm ((s.la.filter _).map _)
theorem bfs_same {E F : List (Int × Ob)} (h : ∀ x, get E x = get F x) (acc : Int → Bool) : ∀ (n : Nat) (out t : List Int), bfs E acc n out t = bfs F acc n out t
  | n, out, [] => by rw [bfs_nil, bfs_nil]
  | 0, out, a :: t => rfl
  | n + 1, out, a :: t => by
    rw [bfs, bfs, h a]
    split
    · exact bfs_same h acc n out t
    · cases get F a with
      | none => rfl
      | some o => exact bfs_same h acc n _ _
theorem Sim.live {H G : HM} (s : Sim H G) (r : List Int) : H.live r = G.live r := by
  unfold HM.live
  rw [s.has, s.fuel, bfs_same s.get]
theorem Sim.gath {H G : HM} (s : Sim H G) : ∀ (rem q : List Int), H.gath rem q = G.gath rem q
  | [], q => rfl
  | a :: rem, q => by
    rw [HM.gath, HM.gath, s.has, s.ob, s.yng, s.gath rem]
theorem Sim.surv {H G : HM} (s : Sim H G) (r : List Int) : H.surv r = G.surv r := by
  unfold HM.surv
  rw [s.gath, s.rem, s.yng]
  cases G.gath G.rem (r.filter G.yng) with
  | none => rfl
  | some q =>
    dsimp only
    rw [s.fuel, bfs_same s.get]
theorem Sim.limit {H G : HM} (s : Sim H G) (n : Nat) (L : List Int) : H.limit n L = G.limit n L := by
  unfold HM.limit
  rw [s.eld, s.top]
theorem Sim.minor {H G : HM} (s : Sim H G) (r : List Int) : H.minor r = G.minor r := by
  unfold HM.minor
  rw [s.has, s.surv, s.la.length_eq]
  split
  · cases G.surv r with
    | none => rfl
    | some L => exact s.limit _ L
  · rfl
theorem Sim.major {H G : HM} (s : Sim H G) (r : List Int) : H.major r = G.major r := by
  unfold HM.major
  rw [s.live]
  cases G.live r with
  | none => rfl
  | some L => exact s.limit _ L
theorem Sim.news {H G : HM} (s : Sim H G) (L : List Int) : H.news L = G.news L := by
  unfold HM.news
  rw [s.top, s.ob]
theorem Sim.olds {H G : HM} (s : Sim H G) (L : List Int) : H.olds L = G.olds L := by
  unfold HM.olds
  rw [s.addrs, s.top, s.ob, s.yng]
theorem Sim.mix {H G : HM} (s : Sim H G) (L : List Int) : H.mix L = G.mix L := by
  unfold HM.mix
  rw [s.olds, s.news]
theorem Sim.mixR {H G : HM} (s : Sim H G) (L : List Int) : H.mixR L = G.mixR L := by
  unfold HM.mixR
  rw [s.olds, s.news]
theorem mix_perm (H : HM) (L : List Int) : (H.mix L).Perm (H.mixR L) := List.perm_append_comm

/-- From the two heaps' relation. -/
theorem Rel.sim {k : Nat} {H G : HM} (h : Rel k H G) : Sim H G := by
  refine ⟨h.nur, h.eld, h.ly, h.la, ?_⟩
  refine ((h.ly.append h.la).map (·.1)).nodup_iff.2 ?_
  rw [List.map_append, List.nodup_append]
  refine ⟨h.sy.nodup, h.sa.nodup, ?_⟩
  intro x hx y hy e
  obtain ⟨p, hp, rfl⟩ := List.mem_map.1 hx
  obtain ⟨q, hq, rfl⟩ := List.mem_map.1 hy
  exact h.dj p hp q hq e
theorem Sim.alike {H : HM} {R : RM} (s : Sim H R.abs) (hW : Wel H) (hR : RWel R) : Alike H R := by
  refine ⟨hW, hR, ?_, ?_, ?_⟩
  · rw [raddrs_abs hR, s.addrs]
  · intro x
    rw [rget_abs, s.getS]
  · intro x
    rw [s.gla x]
    show _ = (Go.Proofs.Ytobniolmielikaa.get (absI R.a) x).isSome
    rw [get_abs]
    cases Go.Proofs.Ytobniolmielikaa.get (keyed R.a) x <;> rfl
end Go.Proofs.Ytobniolmielikaa

/- The chapter's example, on lists; no program in sight; no condition. -/
namespace Go.Proofs.Ytobniolmielikaa
open Go.RowKit

def exM : List (Int × Ob) := [(0, ⟨1, 7, 0, [], []⟩), (1, ⟨7, 0, 0, [0], []⟩), (2, ⟨1, 8, 0, [], []⟩)]
def exH : HM := ⟨5, 5, 0, exM, []⟩
theorem ex_live : exH.live [1] = some [1, 0] := by rfl
theorem ex_rem : exH.rem = [] := by simp [HM.rem, exH, keysOf, srt]
theorem ex_surv : exH.surv [1] = some [1, 0] := by
  unfold HM.surv
  rw [ex_rem]
  rfl
theorem ex_minor : exH.minor [1] = (0, [1, 0]) := by
  unfold HM.minor
  rw [if_pos (by rfl), ex_surv]
  rfl
theorem ex_mix : exH.mix [1, 0] = [(3, ⟨7, 0, 0, [4], []⟩), (4, ⟨1, 7, 0, [], []⟩)] := by
  have h1 : exH.olds [1, 0] = [] := by
    unfold HM.olds
    rw [List.filter_eq_nil_iff.2 (fun a _ => by simp [HM.yng, exH, Go.Proofs.Ytobniolmielikaa.get, ix])]
    rfl
  unfold HM.mix
  rw [h1]
  rfl
theorem ex_top : exH.top = 3 := by rfl
theorem ex_obs : ([1, 0] : List Int).map (fun a => mvO [1, 0] 0 (exH.ob a)) = [⟨7, 0, 0, [1], []⟩, ⟨1, 7, 0, [], []⟩] := by rfl
theorem ex_srt : srt [1, 0] = [0, 1] := by
  have := srt_asc (l := [1, 0]) (m := [(0, ob0), (1, ob0)]) (by simp [Asc]) (by simp [keysOf]; exact List.Perm.swap 0 1 [])
  exact this
/-- The example's heap, and what is left of it. -/
structure ExAt (H : HM) : Prop where
  live : H.live [1] = some [1, 0]
  minor : H.minor [1] = (0, [1, 0])
  fuel : H.fuel [1] ≤ 10
  top : H.top = 3
  obs : ([1, 0] : List Int).map (fun a => mvO [1, 0] 0 (H.ob a)) = [⟨7, 0, 0, [1], []⟩, ⟨1, 7, 0, [], []⟩]
  left : ∀ H', Gone H 0 (H.mix [1, 0]) H' → H'.get 3 = (⟨7, 0, 0, [4], []⟩, 0) ∧ H'.get 2 = (ob0, 35) ∧ (Go.Proofs.Ytobniolmielikaa.get H'.la 4).isSome = true
  len : (H.mix [1, 0]).length = 2
theorem ex_at {H : HM} (s : Sim H exH) : ExAt H := by
  refine ⟨by rw [s.live, ex_live], by rw [s.minor, ex_minor], by rw [s.fuel]; decide, by rw [s.top, ex_top], by rw [s.ob, ex_obs], fun H' g => ?_, by rw [s.mix, ex_mix]; rfl⟩
  obtain ⟨-, -, h1, h2, -⟩ := g.yes rfl
  rw [s.mix, ex_mix] at h2
  have hn : (H'.la.map (·.1)).Nodup := (h2.map _).nodup_iff.2 (by decide)
  have hg : ∀ x, Go.Proofs.Ytobniolmielikaa.get H'.la x = Go.Proofs.Ytobniolmielikaa.get [(3, ⟨7, 0, 0, [4], []⟩), (4, ⟨1, 7, 0, [], []⟩)] x := get_perm h2 hn
  refine ⟨?_, ?_, ?_⟩
  · unfold HM.get
    rw [h1, hg]
    rfl
  · unfold HM.get
    rw [h1, hg]
    rfl
  · rw [hg]
    rfl
end Go.Proofs.Ytobniolmielikaa

/- The collector's law: small; no condition. -/
namespace Go.Proofs.Ytobniolmielikaa
open Go.RowKit

structure SmallAt (l1 l2 : List It) (roots : List Int) : Prop where
  a : l1.length ≤ 20
  b : l2.length ≤ 20
  c : roots.length ≤ 20
  d : ∀ x ∈ l1 ++ l2, x.o.refs.length ≤ 10

/-- How small ends. -/
def SmallEnd (w : World) (l1 l2 : List It) (roots : List Int) (e : Ending) (w' : World) : Prop := Below w.heap.size w w' ∧ ∃ b, e = .returned (.bool b) ∧ (b = true → SmallAt l1 l2 roots)

set_option maxRecDepth 100000 in
set_option maxHeartbeats 4000000 in
theorem small35_any (ok ok' : Nat → Prop) (w : World) (n o : Int) (v1 v2 rv : Value) (l1 l2 : List It) (roots : List Int) (h1 : Raw ok w v1 l1) (h2 : Raw ok w v2 l2) (hr : Ints ok' w rv roots) :
    Calls Try.prog 35 #[.agg #[.int .i64 n, .int .i64 o, v1, v2], rv] w (SmallEnd w l1 l2 roots) := by
  obtain ⟨A1, c1, rfl⟩ := h1.shape
  obtain ⟨A2, c2, rfl⟩ := h2.shape
  obtain ⟨A, c, rfl⟩ := hr.shape
  have H1 := Lib.hid h1
  have H2 := Lib.hid h2
  obtain ⟨B0, hB0⟩ : ∃ B : Obj, Obj.cells #[.int .i64 n, .int .i64 o, .slice A1 l1.length c1, .slice A2 l2.length c2] 62 = B := ⟨_, rfl⟩
  have hb0 : Below w.heap.size w (w.alloc B0) := (Below.refl _ _).alloc (Nat.le_refl _) _
  have HB0 := Lib.hid hb0
  have X0 := Lib.hid (show (w.alloc B0).heap[w.heap.size]? = some (.cells #[.int .i64 n, .int .i64 o, .slice A1 l1.length c1, .slice A2 l2.length c2] 62) by rw [new0, ← hB0])
  have cx := box62 X0.out
  clear h1 h2 hr hb0
  go_enter Try.func35, Try.ntmps35
  by_cases g1 : l1.length ≤ 20
  · by_cases g2 : l2.length ≤ 20
    · by_cases g3 : roots.length ≤ 20
      · go_wp2_with fail
        go_loopw [5] (fun i wr => ∃ k : Nat, k ≤ l1.length + l2.length ∧ i = .int .i64 k ∧ (∀ j, j < k → ∀ z, (l1 ++ l2)[j]? = some z → z.o.refs.length ≤ 10) ∧ Below (w.alloc B0).heap.size (w.alloc B0) wr) (fun i _ => l1.length + l2.length - (intOf i).toNat)
        case atStart => exact ⟨0, Nat.zero_le _, rfl, fun j hj => by omega, Below.refl _ _⟩
        case round =>
          obtain ⟨k, hk, rfl, hs, hb⟩ := hrel
          have HS := Lib.hid hs
          have HB := Lib.hid hb
          have HBW := Lib.hid (below_then HB0.out HB0.out.size hb)
          have cx := box62 (rowB hb X0.out (heap_lt X0.out))
          have zb : w.heap.size + 1 ≤ wr.heap.size := by have := hb.size; simpa using this
          obtain ⟨Z, hZ⟩ : ∃ B : Obj, Obj.cells #[.int .i64 0, .int .i64 0, .int .i64 0, .slice none 0 0, .slice none 0 0] 25 = B := ⟨_, rfl⟩
          have cx2 := box62 (old1 (rowB hb X0.out (heap_lt X0.out)) Z)
          clear hs hb
          by_cases hlt : k < l1.length + l2.length
          · by_cases hlt1 : k < l1.length
            · have hx := List.getElem?_eq_getElem hlt1
              generalize l1[k] = x at hx
              have HX := Lib.hid (show (l1 ++ l2)[k]? = some x by rw [List.getElem?_append_left hlt1, hx])
              obtain ⟨b, o, eA, hat⟩ := Raw.at ((H1).out.fresh HBW.out) hx
              subst eA
              obtain ⟨ws, hws, hrow, hbl⟩ : ∃ W, W = set5 (wr.alloc Z) wr.heap.size (.int .i64 0) (.int .i64 0) (.int .i64 0) (.slice none 0 0) (.slice none 0 0) ∧ W.heap[wr.heap.size]? = some (.cells #[.int .i64 0, .int .i64 0, .int .i64 0, .slice none 0 0, .slice none 0 0] 25) ∧ Below wr.heap.size wr W :=
                ⟨_, rfl, set5_row (show (wr.alloc Z).heap[wr.heap.size]? = _ by rw [new0, ← hZ]) _ _ _ _ _, ((Below.refl _ _).alloc (Nat.le_refl _) Z).trans ((set5_turn (S := fun q => q = wr.heap.size) (Turn.refl _ _) rfl _ _ _ _ _).below (by simp) (fun q e => by omega))⟩
              unfold set5 at hws
              have cz := cellsH (show (wr.alloc Z).heap[wr.heap.size]? = _ by rw [new0, ← hZ])
              have fz := freeH (show (wr.alloc Z).heap[wr.heap.size]? = _ by rw [new0, ← hZ])
              go_upto_region 7 with (fail)
              rw [← hws]
              clear cz fz hws hZ cx cx2
              obtain ⟨-, -, x2, x3⟩ := box62 (rowB hbl (rowB HB.out X0.out (heap_lt X0.out)) (by have := heap_lt X0.out; simp at this; omega))
              obtain ⟨_, d1, d2, d3, d4, d5⟩ := (hat.keep (w' := ws) (hbl.block b (World.block_lt_of_cell? wr ⟨b, o + k * 6, none⟩ hat.c0))).all
              have cs := cellsH hrow
              have fs := freeH hrow
              have c5 := cellsH (set5_row hrow (.int .i64 x.o.op) (.int .i64 x.o.n) (.int .i64 x.o.ar) (.slice x.ra x.o.refs.length x.rc) (.slice x.wa x.o.words.length x.wc))
              have BS := Lib.hid (show Below (w.alloc B0).heap.size wr (set5 ws wr.heap.size (.int .i64 x.o.op) (.int .i64 x.o.n) (.int .i64 x.o.ar) (.slice x.ra x.o.refs.length x.rc) (.slice x.wa x.o.words.length x.wc)) from (hbl.mono (by simp; omega)).trans ((set5_turn (S := fun q => q = wr.heap.size) (Turn.refl _ _) rfl _ _ _ _ _).below (by have := hbl.size; simp; omega) (fun q e => by simp; omega)))
              unfold set5 at c5 BS
              clear hrow hat
              by_cases r1 : x.o.refs.length ≤ 10
              · by_cases r2 : x.o.words.length ≤ 10
                · have R1 := Lib.hid r1
                  go_wp2_with fail
                  go_roundw
                  case rel =>
                    refine ⟨k + 1, by omega, by go_num, ?_, HB.out.trans BS.out⟩
                    intro j hj z hz
                    by_cases e : j < k
                    · exact HS.out j e z hz
                    · have : j = k := by omega
                      subst this
                      rw [HX.out] at hz
                      cases hz
                      exact R1.out
                  case measure => simp [intOf]; omega
                · go_wp2_with fail
                  go_ret
                  exact ⟨(HBW.out.trans (BS.out.mono (by simp))), _, rfl, fun e => by cases e⟩
              · go_wp2_with fail
                go_ret
                exact ⟨(HBW.out.trans (BS.out.mono (by simp))), _, rfl, fun e => by cases e⟩
            · have hlt2 : k - l1.length < l2.length := by omega
              have hx := List.getElem?_eq_getElem hlt2
              generalize l2[k - l1.length] = x at hx
              have HX := Lib.hid (show (l1 ++ l2)[k]? = some x by rw [List.getElem?_append_right (by omega), hx])
              obtain ⟨q, hq⟩ : ∃ q, k = l1.length + q := ⟨k - l1.length, by omega⟩
              subst hq
              rw [Nat.add_sub_cancel_left] at hx hlt2
              obtain ⟨b, o, eA, hat⟩ := Raw.at ((H2).out.fresh HBW.out) hx
              subst eA
              obtain ⟨ws, hws, hrow, hbl⟩ : ∃ W, W = set5 (wr.alloc Z) wr.heap.size (.int .i64 0) (.int .i64 0) (.int .i64 0) (.slice none 0 0) (.slice none 0 0) ∧ W.heap[wr.heap.size]? = some (.cells #[.int .i64 0, .int .i64 0, .int .i64 0, .slice none 0 0, .slice none 0 0] 25) ∧ Below wr.heap.size wr W :=
                ⟨_, rfl, set5_row (show (wr.alloc Z).heap[wr.heap.size]? = _ by rw [new0, ← hZ]) _ _ _ _ _, ((Below.refl _ _).alloc (Nat.le_refl _) Z).trans ((set5_turn (S := fun q => q = wr.heap.size) (Turn.refl _ _) rfl _ _ _ _ _).below (by simp) (fun q e => by omega))⟩
              unfold set5 at hws
              have cz := cellsH (show (wr.alloc Z).heap[wr.heap.size]? = _ by rw [new0, ← hZ])
              have fz := freeH (show (wr.alloc Z).heap[wr.heap.size]? = _ by rw [new0, ← hZ])
              go_upto_region 7 with (fail)
              rw [← hws]
              clear cz fz hws hZ cx cx2
              obtain ⟨-, -, x2, x3⟩ := box62 (rowB hbl (rowB HB.out X0.out (heap_lt X0.out)) (by have := heap_lt X0.out; simp at this; omega))
              obtain ⟨_, d1, d2, d3, d4, d5⟩ := (hat.keep (w' := ws) (hbl.block b (World.block_lt_of_cell? wr ⟨b, o + q * 6, none⟩ hat.c0))).all
              have cs := cellsH hrow
              have fs := freeH hrow
              have c5 := cellsH (set5_row hrow (.int .i64 x.o.op) (.int .i64 x.o.n) (.int .i64 x.o.ar) (.slice x.ra x.o.refs.length x.rc) (.slice x.wa x.o.words.length x.wc))
              have BS := Lib.hid (show Below (w.alloc B0).heap.size wr (set5 ws wr.heap.size (.int .i64 x.o.op) (.int .i64 x.o.n) (.int .i64 x.o.ar) (.slice x.ra x.o.refs.length x.rc) (.slice x.wa x.o.words.length x.wc)) from (hbl.mono (by simp; omega)).trans ((set5_turn (S := fun q => q = wr.heap.size) (Turn.refl _ _) rfl _ _ _ _ _).below (by have := hbl.size; simp; omega) (fun q e => by simp; omega)))
              unfold set5 at c5 BS
              clear hrow hat
              by_cases r1 : x.o.refs.length ≤ 10
              · by_cases r2 : x.o.words.length ≤ 10
                · have R1 := Lib.hid r1
                  go_wp2_with fail
                  go_roundw
                  case rel =>
                    refine ⟨l1.length + q + 1, by omega, by go_num, ?_, HB.out.trans BS.out⟩
                    intro j hj z hz
                    by_cases e : j < l1.length + q
                    · exact HS.out j e z hz
                    · have : j = l1.length + q := by omega
                      subst this
                      rw [HX.out] at hz
                      cases hz
                      exact R1.out
                  case measure => simp [intOf]; omega
                · go_wp2_with fail
                  go_ret
                  exact ⟨(HBW.out.trans (BS.out.mono (by simp))), _, rfl, fun e => by cases e⟩
              · go_wp2_with fail
                go_ret
                exact ⟨(HBW.out.trans (BS.out.mono (by simp))), _, rfl, fun e => by cases e⟩
          · go_wp2_with fail
            go_ret
            refine ⟨HBW.out, _, rfl, fun _ => ⟨g1, g2, g3, fun z hz => ?_⟩⟩
            obtain ⟨j, hj⟩ := List.getElem?_of_mem hz
            have hjl := (List.getElem?_eq_some_iff.1 hj).1
            rw [List.length_append] at hjl
            exact HS.out j (by omega) z hj
      · go_wp2_with fail
        go_ret
        exact ⟨HB0.out, _, rfl, fun e => by cases e⟩
    · go_wp2_with fail
      go_ret
      exact ⟨HB0.out, _, rfl, fun e => by cases e⟩
  · go_wp2_with fail
    go_ret
    exact ⟨HB0.out, _, rfl, fun e => by cases e⟩
end Go.Proofs.Ytobniolmielikaa

/- The law level on lists: what made makes, and what a collection leaves, are heaps again, and small; no program in sight; no condition. -/
namespace Go.Proofs.Ytobniolmielikaa
open Go.RowKit

theorem Sim.wel {H G : HM} (s : Sim H G) (h : Wel H) : Wel G :=
  ⟨by rw [s.nur]; exact h.n1, by rw [s.nur]; exact h.n2, by rw [s.eld]; exact h.e1, by rw [s.eld]; exact h.e2, by rw [s.nur, ← s.ly.length_eq]; exact h.ly, by rw [s.eld, ← s.la.length_eq]; exact h.la, s.nd', by rw [← fitB_perm s.ly]; exact h.fy, by rw [← fitB_perm s.la]; exact h.fa⟩
theorem repl_zero {H : HM} {m1 m2 : List (Int × Ob)} (h : H.repl m1 m2 = 0) : fitB m1 = true ∧ fitB m2 = true := by
  unfold HM.repl at h
  split at h
  · rename_i hc
    exact ⟨hc.1, hc.2.1⟩
  · omega
theorem MadeAt.rel {w w' : World} {n o : Int} {l1 l2 : List It} {h y a r : Nat} {NV AV : Value} {H : HM} {R : RM} (m : MadeAt w w' n o l1 l2 h y a r NV AV H R) : Rel 1 H R.abs :=
  (rel_repl (rel_new m.ok) m.d1 m.d2 m.rp m.rq).2
theorem MadeAt.sim {w w' : World} {n o : Int} {l1 l2 : List It} {h y a r : Nat} {NV AV : Value} {H : HM} {R : RM} (m : MadeAt w w' n o l1 l2 h y a r NV AV H R) : Sim H R.abs := m.rel.sim
theorem MadeAt.wel {w w' : World} {n o : Int} {l1 l2 : List It} {h y a r : Nat} {NV AV : Value} {H : HM} {R : RM} (m : MadeAt w w' n o l1 l2 h y a r NV AV H R) : Wel H := by
  obtain ⟨f1, f2⟩ := repl_zero m.zero
  obtain ⟨_, _, p1, p2, _⟩ := m.rp.yes m.zero
  have hr := m.rel
  exact ⟨hr.n1, hr.n2, hr.e1, hr.e2, hr.ln, hr.le, m.sim.nd, by rw [fitB_perm p1]; exact f1, by rw [fitB_perm p2]; exact f2⟩
theorem MadeAt.rwel {w w' : World} {n o : Int} {l1 l2 : List It} {h y a r : Nat} {NV AV : Value} {H : HM} {R : RM} (m : MadeAt w w' n o l1 l2 h y a r NV AV H R) : RWel R := by
  have hr := m.rel
  refine ⟨m.sim.wel m.wel, hr.sy, hr.sa, ?_⟩
  have h1 := hr.next
  have h2 := hr.lo
  show 0 ≤ R.abs.next
  omega

/-- A small heap. -/
structure Bnd (H : HM) : Prop where
  len : H.all.length ≤ 40
  refs : ∀ p ∈ H.all, p.2.refs.length ≤ 10
theorem Bnd.vol {E : List (Int × Ob)} (h : ∀ p ∈ E, p.2.refs.length ≤ 10) : Go.Proofs.Ytobniolmielikaa.vol E [] ≤ 10 * E.length := by
  induction E with
  | nil => simp [Go.Proofs.Ytobniolmielikaa.vol]
  | cons p E ih =>
    have h1 := ih (fun q hq => h q (by simp [hq]))
    have h2 := h p (by simp)
    rw [vol_cons]
    simp only [List.not_mem_nil, if_false, List.length_cons]
    omega
theorem Bnd.fuel {H : HM} (h : Bnd H) {t : List Int} (ht : t.length ≤ 20) : H.fuel t ≤ 420 := by
  have h1 := Bnd.vol h.refs
  have h2 := h.len
  unfold HM.fuel
  omega
theorem Bnd.sim {H G : HM} (h : Bnd H) (s : Sim H G) : Bnd G := ⟨by rw [← s.all.length_eq]; exact h.len, fun p hp => h.refs p (s.all.mem_iff.2 hp)⟩
theorem put_in {l : List (Int × Ob)} {k : Int} {v : Ob} {p : Int × Ob} (h : p ∈ put l k v) : p ∈ l ∨ p = (k, v) := by
  unfold put at h
  split at h
  · rcases List.mem_or_eq_of_mem_set h with h | h
    · exact .inl h
    · exact .inr h
  · simpa using h
theorem cont_in {l : List It} {p : Int × Ob} (h : p ∈ cont l) : ∃ x ∈ l, p = (x.a, x.o) := by
  have go : ∀ (l : List It) (m : List (Int × Ob)), p ∈ l.foldl (fun m x => put m x.a x.o) m → p ∈ m ∨ ∃ x ∈ l, p = (x.a, x.o) := by
    intro l
    induction l with
    | nil => intro m h; exact .inl h
    | cons x l ih =>
      intro m h
      rcases ih _ h with h | ⟨z, hz, e⟩
      · rcases put_in h with h | h
        · exact .inl h
        · exact .inr ⟨x, by simp, h⟩
      · exact .inr ⟨z, by simp [hz], e⟩
  rcases go l [] h with h | h
  · cases h
  · exact h
theorem MadeAt.bnd {w w' : World} {n o : Int} {l1 l2 : List It} {h y a r : Nat} {NV AV : Value} {H : HM} {R : RM} (m : MadeAt w w' n o l1 l2 h y a r NV AV H R) {roots : List Int} (hs : SmallAt l1 l2 roots) : Bnd H := by
  obtain ⟨_, _, p1, p2, _⟩ := m.rp.yes m.zero
  have h1 := cont_length l1
  have h2 := cont_length l2
  have h3 := hs.a
  have h4 := hs.b
  refine ⟨?_, fun p hp => ?_⟩
  · unfold HM.all
    rw [List.length_append, p1.length_eq, p2.length_eq]
    omega
  · rcases List.mem_append.1 hp with hp | hp
    · obtain ⟨x, hx, rfl⟩ := cont_in (p1.mem_iff.1 hp)
      exact hs.d x (by simp [hx])
    · obtain ⟨x, hx, rfl⟩ := cont_in (p2.mem_iff.1 hp)
      exact hs.d x (by simp [hx])

/-- What a collection may lay into a heap. -/
structure Col (H : HM) (m : List (Int × Ob)) : Prop where
  fit : fitB m = true
  nd : (m.map (·.1)).Nodup
  len : m.length ≤ H.eld
  bnd : Bnd H → m.length ≤ 40 ∧ ∀ p ∈ m, p.2.refs.length ≤ 10
theorem limit_zero {H : HM} {n : Nat} {L : List Int} (h : (H.limit n L).1 = 0) : (H.limit n L).2 = L ∧ n + L.length ≤ H.eld ∧ H.top + L.length ≤ 4611686018427387904 := by
  unfold HM.limit at h ⊢
  split
  · rename_i h1; rw [if_pos h1] at h; omega
  · rename_i h1
    rw [if_neg h1] at h
    split
    · rename_i h2; rw [if_pos h2] at h; omega
    · exact ⟨rfl, by omega, by omega⟩
theorem minor_zero {H : HM} {r : List Int} (h : (H.minor r).1 = 0) : r.all H.has = true ∧ ∃ L, H.surv r = some L ∧ (H.minor r).2 = L ∧ H.la.length + L.length ≤ H.eld ∧ H.top + L.length ≤ 4611686018427387904 := by
  unfold HM.minor at h ⊢
  split
  · rename_i h1
    rw [if_pos h1] at h
    refine ⟨h1, ?_⟩
    cases hs : H.surv r with
    | none => rw [hs] at h; simp at h
    | some L =>
      rw [hs] at h
      obtain ⟨a, b, c⟩ := limit_zero h
      exact ⟨L, rfl, a, b, c⟩
  · rename_i h1
    rw [if_neg h1] at h
    simp at h
theorem major_zero {H : HM} {r : List Int} (h : (H.major r).1 = 0) : ∃ L, H.live r = some L ∧ (H.major r).2 = L ∧ L.length ≤ H.eld ∧ H.top + L.length ≤ 4611686018427387904 := by
  unfold HM.major at h ⊢
  cases hs : H.live r with
  | none => rw [hs] at h; simp at h
  | some L =>
    rw [hs] at h
    obtain ⟨a, b, c⟩ := limit_zero h
    exact ⟨L, rfl, a, by omega, c⟩
theorem get_in_list {l : List (Int × Ob)} {k : Int} {o : Ob} (h : get l k = some o) : (k, o) ∈ l := by
  unfold get at h
  obtain ⟨q, hq, e⟩ := Option.map_eq_some_iff.1 h
  obtain ⟨i, v⟩ := q
  simp only at e
  subst e
  exact List.mem_of_getElem? (ix_get hq)
theorem news_refs {H : HM} (hb : Bnd H) {L : List Int} (hL : ∀ a ∈ L, H.has a = true) {p : Int × Ob} (hp : p ∈ H.news L) : p.2.refs.length ≤ 10 := by
  obtain ⟨i, a, hi, rfl⟩ := news_mem hp
  have := HM.get_some (hL a (List.mem_of_getElem? hi))
  have := hb.refs _ (get_in_list this)
  simpa [mvO] using this
theorem keys_le {H : HM} {L : List Int} (hn : L.Nodup) (hL : ∀ a ∈ L, H.has a = true) : L.length ≤ H.all.length := by
  have := nodup_le hn (M := H.all.map (·.1)) (fun a ha => List.mem_map_of_mem (f := (·.1)) (get_in_list (HM.get_some (hL a ha))))
  simpa using this
theorem major_col {H : HM} (hW : Wel H) {r : List Int} (h : (H.major r).1 = 0) : Col H (H.news (H.major r).2) := by
  obtain ⟨L, hl, e, h1, h2⟩ := major_zero h
  rw [e]
  obtain ⟨a, b, -, -⟩ := live_has hl
  refine ⟨by rw [fitB_news hW b]; simpa using h2, news_keys_nodup H L, by rw [news_length]; exact h1, fun hb => ⟨?_, fun p hp => news_refs hb b hp⟩⟩
  rw [news_length]
  have := keys_le a b
  have := hb.len
  omega
theorem mix_nodup {H : HM} (hW : Wel H) (L : List Int) : ((H.mix L).map (·.1)).Nodup := by
  unfold HM.mix
  rw [List.map_append, List.nodup_append]
  refine ⟨?_, news_keys_nodup H L, ?_⟩
  · unfold HM.olds
    rw [List.map_map]
    have : ((fun p : Int × Ob => p.1) ∘ fun a => (a, mvO L H.top (H.ob a))) = id := rfl
    rw [this, List.map_id]
    exact hW.addrs_nodup.filter _
  · intro x hx z hz e
    obtain ⟨p, hp, rfl⟩ := List.mem_map.1 hx
    obtain ⟨q, hq, rfl⟩ := List.mem_map.1 hz
    have h1 := olds_lt hW hp
    obtain ⟨i, a, -, rfl⟩ := news_mem hq
    dsimp only at e
    omega
theorem minor_col {H : HM} (hW : Wel H) {r : List Int} (h : (H.minor r).1 = 0) : Col H (H.mix (H.minor r).2) := by
  obtain ⟨hr, L, hs, e, h1, h2⟩ := minor_zero h
  rw [e]
  obtain ⟨a, b, c⟩ := surv_has hs
  refine ⟨by rw [fitB_mix hW b]; simpa using h2, mix_nodup hW L, by rw [mix_length hW]; omega, fun hb => ⟨?_, fun p hp => ?_⟩⟩
  · rw [mix_length hW]
    have : L.length ≤ H.ly.length := by
      have := nodup_le a (M := H.ly.map (·.1)) (fun x hx => by
        have h3 := get_in_list (HM.get_some (b x hx))
        rcases List.mem_append.1 h3 with h3 | h3
        · exact List.mem_map_of_mem (f := (·.1)) h3
        · have := yng_la (H := H) (List.mem_map_of_mem (f := (·.1)) h3)
          rw [c x hx] at this
          cases this)
      simpa using this
    have := hb.len
    unfold HM.all at this
    rw [List.length_append] at this
    omega
  · rcases List.mem_append.1 hp with hp | hp
    · obtain ⟨x, hx, -, rfl⟩ := olds_mem hp
      have := HM.get_some ((hW.addr_mem).1 hx)
      have := hb.refs _ (get_in_list this)
      simpa [mvO] using this
    · exact news_refs hb b hp
theorem Col.wel {H H' : HM} {m : List (Int × Ob)} (hW : Wel H) (c : Col H m) (h1 : H'.nur = H.nur) (h2 : H'.eld = H.eld) (h3 : H'.ly = []) (h4 : H'.la.Perm m) : Wel H' := by
  have ha : H'.all.Perm m := by unfold HM.all; rw [h3]; simpa using h4
  exact ⟨by rw [h1]; exact hW.n1, by rw [h1]; exact hW.n2, by rw [h2]; exact hW.e1, by rw [h2]; exact hW.e2, by rw [h3]; have := hW.n1; simp; omega, by rw [h2, h4.length_eq]; exact c.len, (ha.map _).nodup_iff.2 c.nd, by rw [h3]; rfl, by rw [fitB_perm h4]; exact c.fit⟩
theorem Gone.wel {H H' : HM} {e : Int} {m : List (Int × Ob)} (g : Gone H e m H') (hW : Wel H) (c : e = 0 → Col H m) : Wel H' := by
  by_cases h : e = 0
  · obtain ⟨h1, h2, h3, h4, -⟩ := g.yes h
    exact (c h).wel hW h1 h2 h3 h4
  · rw [g.no h]; exact hW
theorem Gone.bnd {H H' : HM} {e : Int} {m : List (Int × Ob)} (g : Gone H e m H') (hB : Bnd H) (c : e = 0 → Col H m) : Bnd H' := by
  by_cases h : e = 0
  · obtain ⟨h1, h2, h3, h4, -⟩ := g.yes h
    obtain ⟨b1, b2⟩ := (c h).bnd hB
    have ha : H'.all.Perm m := by unfold HM.all; rw [h3]; simpa using h4
    exact ⟨by rw [ha.length_eq]; exact b1, fun p hp => b2 p (ha.mem_iff.1 hp)⟩
  · rw [g.no h]; exact hB
theorem gone_both {H H' : HM} {R R' : RM} {e : Int} {m m' : List (Int × Ob)} (s : Sim H R.abs) (hW : Wel H) (hR : RWel R) (g : Gone H e m H') (no : e ≠ 0 → R'.abs = R.abs) (yes : e = 0 → R'.abs = ⟨R.s0, R.s1, max R.next (nxt m'), [], srtI m'⟩) (hp : m.Perm m') (c : e = 0 → Col H m) :
    Sim H' R'.abs ∧ RWel R' := by
  have hW' := g.wel hW c
  by_cases h : e = 0
  · obtain ⟨h1, h2, h3, h4, -⟩ := g.yes h
    have hy := yes h
    have hnd : (m'.map (·.1)).Nodup := (hp.map _).nodup_iff.1 (c h).nd
    obtain ⟨a1, p1⟩ := srtI_both hnd
    have s' : Sim H' R'.abs := by
      rw [hy]
      exact ⟨by rw [h1]; exact s.nur, by rw [h2]; exact s.eld, by rw [h3], (h4.trans hp).trans p1.symm, hW'.nd⟩
    refine ⟨s', s'.wel hW', ?_, ?_, ?_⟩
    · show Asc R'.abs.ly
      rw [hy]
      exact .nil
    · show Asc R'.abs.la
      rw [hy]
      exact a1
    · show 0 ≤ R'.abs.next
      rw [hy]
      have := hR.nx
      dsimp only
      omega
  · have hn := no h
    rw [g.no h]
    refine ⟨by rw [hn]; exact s, by rw [hn]; exact hR.wel, ?_, ?_, ?_⟩
    · show Asc R'.abs.ly
      rw [hn]; exact hR.sy
    · show Asc R'.abs.la
      rw [hn]; exact hR.sa
    · show 0 ≤ R'.abs.next
      rw [hn]; exact hR.nx
end Go.Proofs.Ytobniolmielikaa

/- The collector's Minor at no heap; no condition. -/
namespace Go.Proofs.Ytobniolmielikaa
open Go.RowKit

theorem start_nil (w : World) : Calls Try.prog 84 #[.pointer none, .slice none 0 0] w fun e w' => e = .returned (.tuple #[.pointer none, .int .i64 2]) ∧ w' = w := by
  go_enter Try.func84, Try.ntmps84
  go_wp2_with fail
  go_ret2
  exact ⟨rfl, rfl⟩

set_option maxRecDepth 100000 in
set_option maxHeartbeats 2000000 in
theorem minor_nil (w : World) : Calls Try.prog 45 #[.pointer none, .slice none 0 0] w fun e w' => e = .returned (.tuple #[.slice none 0 0, .agg (statA 0 0 0 0), .int .i64 2]) ∧ Below w.heap.size w w' := by
  obtain ⟨Z, hZ⟩ : ∃ Z : Obj, Obj.cells (statA 0 0 0 0) 75 = Z := ⟨_, rfl⟩
  have HBX := Lib.hid (show (w.alloc Z).heap[w.heap.size]? = some (.cells (statA 0 0 0 0) 75) by rw [new0, ← hZ])
  have HB := Lib.hid ((Below.refl w.heap.size w).alloc (Nat.le_refl _) Z)
  go_enter Try.func45, Try.ntmps45
  go_wp2_with fail
  refine (start_nil (w.alloc Z)).mono ?_
  rintro e w1 ⟨rfl, rfl⟩
  clear hZ
  generalize w.alloc Z = w1 at *
  have cx := cellsH HBX.out
  have fx := freeH HBX.out
  go_wp2_with fail
  clear cx fx
  have c := cellsH (set8_row HBX.out (.int .i64 0) (.int .i64 0) (.int .i64 0) (.int .i64 0) (.int .i64 0) (.int .i64 0) (.int .i64 0) (.int .i64 0))
  have ht := set8_turn (S := fun k => k = w.heap.size) (Turn.refl _ w1) rfl (.int .i64 0) (.int .i64 0) (.int .i64 0) (.int .i64 0) (.int .i64 0) (.int .i64 0) (.int .i64 0) (.int .i64 0)
  have HT := Lib.hid (HB.out.trans (ht.below HB.out.size (fun k e => by omega)))
  unfold set8 set5 at c HT
  refine bodyPost_ret (v := .tuple #[.slice none 0 0, .agg (statA 0 0 0 0), .int .i64 2]) (by simp [results, Try.results45, go_sem, c]) rfl ?_
  exact ⟨rfl, HT.out⟩
end Go.Proofs.Ytobniolmielikaa

/- What the chapter's example asks of its calls; no condition. -/
namespace Go.Proofs.Ytobniolmielikaa
open Go.RowKit

/-- The example's items; g: the block of the one list of references. -/
def exL (g : Nat) : List It := [⟨0, ⟨1, 7, 0, [], []⟩, none, 0, none, 0⟩, ⟨1, ⟨7, 0, 0, [0], []⟩, some ⟨g, 0, none⟩, 1, none, 0⟩, ⟨2, ⟨1, 8, 0, [], []⟩, none, 0, none, 0⟩]
theorem ex_raw {W : World} {g b : Nat} (hg : W.heap[g]? = some (.cells #[.int .i64 0] 3))
    (hb : W.heap[b]? = some (.cells #[.int .i64 0, .int .i64 1, .int .i64 7, .int .i64 0, .slice none 0 0, .slice none 0 0, .int .i64 1, .int .i64 7, .int .i64 0, .int .i64 0, .slice (some ⟨g, 0, none⟩) 1 1, .slice none 0 0, .int .i64 2, .int .i64 1, .int .i64 8, .int .i64 0, .slice none 0 0, .slice none 0 0] 97)) :
    Raw (· < W.heap.size) W (.slice (some ⟨b, 0, none⟩) 3 3) (exL g) ∧ ∀ x ∈ exL g, ObAt (· < W.heap.size) W x.val x.o := by
  have c := cellsH hb
  refine ⟨⟨_, 3, rfl, by simp [exL], by simp [maxLen], (fun h => by cases h), (fun _ => ⟨b, 0, rfl, heap_lt hb, heap_lt hb, ?_⟩), by simp [exL]⟩, ?_⟩
  · intro k x hx
    match k, hx with
    | 0, hx =>
      simp [exL] at hx
      subst hx
      exact ⟨c 0, c 1, c 2, c 3, c 4, c 5⟩
    | 1, hx =>
      simp [exL] at hx
      subst hx
      exact ⟨c 6, c 7, c 8, c 9, c 10, c 11⟩
    | 2, hx =>
      simp [exL] at hx
      subst hx
      exact ⟨c 12, c 13, c 14, c 15, c 16, c 17⟩
    | k + 3, hx => simp [exL] at hx
  · intro x hx
    simp only [exL, List.mem_cons, List.not_mem_nil, or_false] at hx
    rcases hx with rfl | rfl | rfl
    · exact ⟨_, _, rfl, Ints.nil _ _, Ints.nil _ _⟩
    · exact ⟨_, _, rfl, (ints_oneAt hg (by decide)).mono (fun _ h _ => h), Ints.nil _ _⟩
    · exact ⟨_, _, rfl, Ints.nil _ _, Ints.nil _ _⟩
theorem raw_nil (ok : Nat → Prop) (W : World) : Raw ok W (.slice none 0 0) [] := ⟨none, 0, rfl, by simp, by simp [maxLen], (fun _ => rfl), (fun h => by simp at h), by simp⟩
theorem ex_yes (g : Nat) : ¬ MadeNo 5 5 (exL g) [] := fun h => h ⟨rfl, by rfl⟩
theorem ex_of {w w' : World} {g h y a r : Nat} {NV AV : Value} {H : HM} {R : RM} (m : MadeAt w w' 5 5 (exL g) [] h y a r NV AV H R) : ExAt H := by
  obtain ⟨e1, e2, p1, p2, -⟩ := m.rp.yes m.zero
  exact ex_at ⟨e1.symm, e2.symm, p1, p2, m.sim.nd⟩

theorem ints_oneNew (w : World) (x : Int) (hx : (Lit.int .i64 x).wf = true) : Ints (fun k => k = w.heap.size) (w.alloc (.cells #[.int .i64 x] 3)) (.slice (some ⟨w.heap.size, 0, none⟩) 1 1) [x] := by
  refine ⟨_, 1, rfl, by simp, by simp [maxLen], (fun h => by cases h), fun _ => ⟨_, rfl, rfl, by simp, ?_⟩, by simp, by simpa using hx⟩
  intro i y hy
  match i, hy with
  | 0, hy =>
    simp at hy
    subst hy
    exact cellsH (new0 w _) 0
theorem ints_twoNew (w : World) (x y : Int) (hx : (Lit.int .i64 x).wf = true) (hy : (Lit.int .i64 y).wf = true) : Ints (fun _ => True) (w.alloc (.cells #[.int .i64 x, .int .i64 y] 3)) (.slice (some ⟨w.heap.size, 0, none⟩) 2 2) [x, y] := by
  refine ⟨_, 2, rfl, by simp, by simp [maxLen], (fun h => by cases h), fun _ => ⟨_, rfl, trivial, by simp, ?_⟩, by simp, by simp [hx, hy]⟩
  intro i z hz
  match i, hz with
  | 0, hz =>
    simp at hz
    subst hz
    exact cellsH (new0 w _) 0
  | 1, hz =>
    simp at hz
    subst hz
    exact cellsH (new0 w _) 1

/-- How the example's Minor ends. -/
structure ExMin (w : World) (h y a : Nat) (e : Ending) (w' : World) : Prop where
  turn : Turn (HB h y a) w w'
  heap : ∃ H', HeapAt w' h y a H' ∧ H'.get 3 = (⟨7, 0, 0, [4], []⟩, 0) ∧ H'.get 2 = (ob0, 35) ∧ (Go.Proofs.Ytobniolmielikaa.get H'.la 4).isSome = true
  ret : ∃ v, e = .returned (.tuple #[v, .agg (statA 1 0 2 2), .int .i64 0]) ∧ Ints (w.heap.size ≤ ·) w' v [3]
theorem ex_min (ok : Nat → Prop) (w : World) (h y a : Nat) (H : HM) (rv : Value) (hh : HeapAt w h y a H) (hW : Wel H) (ex : ExAt H) (hr : Ints ok w rv [1]) (hok : ∀ k, ok k → ¬ HB h y a k) :
    Calls Try.prog 45 #[.pointer (some ⟨h, 0, none⟩), rv] w (ExMin w h y a) := by
  refine (minor_any ok w h y a H rv [1] hh hW hr hok (by have := ex.fuel; omega)).mono ?_
  rintro e w' ⟨ht, ⟨H', hH', hg⟩, -, hy⟩
  rw [ex.minor] at hg hy
  obtain ⟨v, he, hi⟩ := hy rfl
  have hl := ex.len
  have ht3 := ex.top
  dsimp only at hg he hi
  rw [hl] at he
  rw [ht3] at hi
  exact ⟨ht, ⟨H', hH', ex.left H' hg⟩, v, he, hi⟩
/-- How the example's Graph ends. -/
structure ExGra (w : World) (e : Ending) (w' : World) : Prop where
  bel : Below w.heap.size w w'
  ret : ∃ v u l, e = .returned (.tuple #[v, u, .int .i64 0]) ∧ Ints (w.heap.size ≤ ·) w' v [0] ∧ OwnO w.heap.size w' u l ∧ l.length = 2 ∧ ∃ x, l[1]? = some x ∧ x.o.n = 7
theorem ex_gra (ok : Nat → Prop) (w : World) (h y a : Nat) (H : HM) (rv : Value) (hh : HeapAt w h y a H) (hW : Wel H) (ex : ExAt H) (hr : Ints ok w rv [1]) :
    Calls Try.prog 39 #[.pointer (some ⟨h, 0, none⟩), rv] w (ExGra w) := by
  refine (graph_any ok w h y a H rv [1] hh hr hW.n1 hW.nd (by have := ex.fuel; omega)).mono ?_
  rintro e w' ⟨hb, -, hs⟩
  obtain ⟨v, u, l, he, hi, ho, hl, -⟩ := hs _ ex.live
  rw [ex.obs] at hl
  have hlen : l.length = 2 := by simpa using congrArg List.length hl
  refine ⟨hb, v, u, l, he, hi, ho, hlen, l[1]'(by omega), List.getElem?_eq_getElem _, ?_⟩
  have h1 : (l.map (·.o))[1]? = some ⟨1, 7, 0, [], []⟩ := by rw [hl]; rfl
  rw [List.getElem?_map, List.getElem?_eq_getElem (by omega)] at h1
  simp only [Option.map_some, Option.some.injEq] at h1
  rw [h1]
/-- How the example's Reach ends. -/
structure ExRea (w : World) (e : Ending) (w' : World) : Prop where
  bel : Below w.heap.size w w'
  ret : ∃ v, e = .returned (.tuple #[v, .int .i64 0]) ∧ Ints (w.heap.size ≤ ·) w' v [0, 1]
theorem ex_rea (ok : Nat → Prop) (w : World) (h y a : Nat) (H : HM) (rv : Value) (hh : HeapAt w h y a H) (hW : Wel H) (ex : ExAt H) (hr : Ints ok w rv [1]) :
    Calls Try.prog 37 #[.pointer (some ⟨h, 0, none⟩), rv] w (ExRea w) := by
  refine (reach_any ok w h y a H rv [1] hh hr hW.n1 hW.nd (by have := ex.fuel; omega)).mono ?_
  rintro e w' ⟨hb, -, hs⟩
  obtain ⟨v, he, hi⟩ := hs _ ex.live
  rw [ex_srt] at hi
  exact ⟨hb, v, he, hi⟩
end Go.Proofs.Ytobniolmielikaa

