/- The walk of the program's finding of sprites: the iterator over those that are on the line, and the loop over it. -/
import Derived.RangeFuncNested
import Derived.RangeFuncBound
import Derived.RangeFuncCalls
import Derived.RangeFuncLeaves
import Derived.RangeFuncBox
import Derived.Shelf.Abstract
import Derived.Shelf.RegionOpen
import Derived.OwnWalkIn
import Derived.TacticsInMore
import Derived.LoopNIn
import Derived.LoopIn
import Derived.Test.YtoaecfaackkicaaFetch
import Derived.Test.YtoaecfaackkicaaReg
namespace Go.Proofs.Ytoaecfaackkicaa
open Go Go.RowKit Go.Shelf
attribute [local go_sem] Oper.semAt_some

/-- What a round of the loop over the iterator keeps: all blocks below n0 but the line's, and of the line the places where its memories, registers and number stand. -/
structure ItK (n0 bl : Nat) (w w' : World) : Prop where
  size : w.heap.size ≤ w'.heap.size
  block : ∀ k, k < n0 → k ≠ bl → w'.heap[k]? = w.heap[k]?
  line : ∀ i, 1028 ≤ i → i < 1031 → w'.cell? ⟨bl, i, none⟩ = w.cell? ⟨bl, i, none⟩
theorem ItK.refl (n0 bl : Nat) (w : World) : ItK n0 bl w w := ⟨Nat.le_refl _, fun _ _ _ => rfl, fun _ _ _ => rfl⟩
theorem ItK.trans {n0 bl : Nat} {a b c : World} (h : ItK n0 bl a b) (k : ItK n0 bl b c) : ItK n0 bl a c :=
  ⟨Nat.le_trans h.size k.size, fun i hi hb => (k.block i hi hb).trans (h.block i hi hb), fun i h1 h2 => (k.line i h1 h2).trans (h.line i h1 h2)⟩
theorem ItK.of_below {n0 bl B : Nat} {a b : World} (h : Below B a b) (hb : bl < B) (hB : n0 ≤ B) : ItK n0 bl a b :=
  ⟨h.size, fun k hk _ => h.block k (by omega), fun i _ _ => h.cell (p := ⟨bl, i, none⟩) hb⟩
theorem ItK.putObj {n0 bl : Nat} (W : World) (l : Nat) (o' : Obj) (hl : n0 ≤ l) (hb : bl < n0) : ItK n0 bl W (W.putObj l o') :=
  ⟨by simp, fun k hk _ => World.putObj_heap_other (by omega), fun i _ _ => World.cell?_of_block (World.putObj_heap_other (by show bl ≠ l; omega))⟩
theorem ItK.cell {n0 bl : Nat} {a b : World} (h : ItK n0 bl a b) {p : Addr} {v : Value} (hc : a.cell? p = some v) (hp : p.block ≠ bl) (hl : p.block < n0) : b.cell? p = some v :=
  (World.cell?_of_block (w := a) (h.block _ hl hp)).trans hc
theorem VidAt.itk {n0 bl bv : Nat} {a b : World} {vr oa cg : Nat → Int} (h : VidAt a bv vr oa cg) (k : ItK n0 bl a b) (hb : bv ≠ bl) (hl : bv < n0) : VidAt b bv vr oa cg :=
  ⟨fun i hi => k.cell (h.vram i hi) hb hl, fun i hi => k.cell (h.oam i hi) hb hl, fun i hi => k.cell (h.cg i hi) hb hl, h.vrB, h.oamB⟩
/-- What the iterator reads. -/
structure ItF (bl bv bs so b2 b3 first : Nat) (y : Int) (M : Mem) (w : World) : Prop where
  c2 : w.cell? ⟨b2, 0, none⟩ = some (.pointer (some ⟨bl, 0, none⟩))
  c3 : w.cell? ⟨b3, 0, none⟩ = some (.int .i64 (first : Int))
  c4 : w.cell? ⟨bl, 1028, none⟩ = some (.pointer (some ⟨bv, 0, none⟩))
  c5 : w.cell? ⟨bl, 1029, none⟩ = some (.pointer (some ⟨bs, so, none⟩))
  c6 : w.cell? ⟨bl, 1030, none⟩ = some (.int .i64 y)
  vid : VidAt w bv M.vr M.oa M.cg
  reg : w.cell? ⟨bs, so + 1, none⟩ = some (.int .u8 M.r1)
structure ItN (n0 bl bv bs b2 b3 : Nat) : Prop where
  (nv : bv ≠ bl) (ns : bs ≠ bl) (n2 : b2 ≠ bl) (n3 : b3 ≠ bl)
  (ll : bl < n0) (lv : bv < n0) (ls : bs < n0) (l2 : b2 < n0) (l3 : b3 < n0)
theorem ItF.keep {n0 bl bv bs so b2 b3 first : Nat} {y : Int} {M : Mem} {a b : World} (h : ItF bl bv bs so b2 b3 first y M a) (N : ItN n0 bl bv bs b2 b3) (k : ItK n0 bl a b) : ItF bl bv bs so b2 b3 first y M b :=
  ⟨k.cell h.c2 N.n2 N.l2, k.cell h.c3 N.n3 N.l3, (k.line 1028 (by omega) (by omega)).trans h.c4, (k.line 1029 (by omega) (by omega)).trans h.c5, (k.line 1030 (by omega) (by omega)).trans h.c6,
    h.vid.itk k N.nv N.lv, k.cell h.reg N.ns N.ls⟩
theorem grownBy_of_below {w w' : World} (h : Below w.heap.size w w') : w.grownBy w' none := ⟨h.os, h.tape, h.output, h.size, fun k hk _ => h.block k hk⟩

theorem candTo_on {oa : Nat → Int} {r1 : Int} {first : Nat} {y : Int} {k : Nat} (h : onLine (spOf oa r1 (ixOf first k)) y = true) : candTo oa r1 first y (k + 1) = candTo oa r1 first y k ++ [ixOf first k] := by simp [candTo, h]
theorem candTo_off {oa : Nat → Int} {r1 : Int} {first : Nat} {y : Int} {k : Nat} (h : onLine (spOf oa r1 (ixOf first k)) y = false) : candTo oa r1 first y (k + 1) = candTo oa r1 first y k := by simp [candTo, h]
theorem candTo_pre (oa : Nat → Int) (r1 : Int) (first : Nat) (y : Int) {k n : Nat} (h : k ≤ n) : candTo oa r1 first y k <+: candTo oa r1 first y n := by
  induction n with
  | zero => obtain rfl : k = 0 := by omega
            exact List.prefix_refl _
  | succ n ih =>
    by_cases e : k = n + 1
    · subst e; exact List.prefix_refl _
    · exact (ih (by omega)).trans (List.prefix_append _ _)

set_option maxRecDepth 100000 in
set_option maxHeartbeats 4000000 in
/-- The iterator: for every loop's body that keeps what it reads. -/
theorem on1_in (n l n0 bl bv bs so b2 b3 first : Nat) (y : Int) (M : Mem) (hf : first < 128) (hoa : ∀ i, 0 ≤ M.oa i ∧ M.oa i ≤ 255) (hr0 : 0 ≤ M.r1) (hr1 : M.r1 ≤ 255) (N : ItN n0 bl bv bs b2 b3) (B : Nat) (J Jx : List Nat → World → Prop)
    (hJ : AbidesFrom B J)
    (hY : ∀ (pre : List Nat) (x : Nat) (W : World), J pre W → pre.length < 128 → YieldAt Fence.wide (n - 1) Try.prog l #[.int .i64 (x : Int), (M.sp x).v] W fun e W' =>
      (e = .returned (.bool true) ∧ J (pre ++ [x]) W' ∧ ItK n0 bl W W') ∨ (e = .returned (.bool false) ∧ Jx (pre ++ [x]) W'))
    (w : World) (hn0 : n0 ≤ w.heap.size) (F : ItF bl bv bs so b2 b3 first y M w) (h0 : J [] w) :
    Calls Try.prog 30 #[.func (.yield l) #[] #[], .pointer (some ⟨b3, 0, none⟩), .pointer (some ⟨b2, 0, none⟩)] w fun e W' => (∃ v, e = .returned v) ∧
      ((∃ ys, ys = candTo M.oa M.r1 first y 128 ∧ J ys W') ∨ (∃ pre, pre <+: candTo M.oa M.r1 first y 128 ∧ Jx pre W')) := by
  have HF := Lib.hid F
  have HY := Lib.hid hY
  have HJ := Lib.hid hJ
  have HO := Lib.hid hoa
  clear F hY hJ hoa
  go_enter Try.func30, Try.ntmps30
  go_wp2_with fail
  go_loopw [10] (fun i wr => ∃ k : Nat, k ≤ 128 ∧ i = .int .i64 k ∧ J (candTo M.oa M.r1 first y k) wr ∧ ItK n0 bl w wr) (fun i _ => 128 - (intOf i).toNat)
  case atStart => exact ⟨0, by omega, rfl, h0, ItK.refl _ _ _⟩
  case round =>
    obtain ⟨k, hk, rfl, hJk, hkeep⟩ := hrel
    have hn1 : n0 ≤ wr.heap.size := Nat.le_trans hn0 hkeep.size
    have HJK := Lib.hid hJk
    have HK := Lib.hid hkeep
    have F := HF.out.keep N hkeep
    clear hJk hkeep
    by_cases hlt : k < 128
    · have t1 : decide ((k : Int) < 128) = true := decide_eq_true (by omega)
      obtain ⟨i, hi⟩ : ∃ i, i = ixOf first k := ⟨_, rfl⟩
      have hix : ((first : Int) + (k : Int)) % 128 = (i : Int) := by rw [hi]; unfold ixOf; omega
      have hi128 : i < 128 := by rw [hi]; unfold ixOf; omega
      obtain ⟨p, hp⟩ : ∃ p, p = spOf M.oa M.r1 i := ⟨_, rfl⟩
      have hpy := spOf_y M.oa HO.out M.r1 i
      have hpb := spOf_bd M.oa HO.out M.r1 i
      have hsv : spOf M.oa M.r1 ((i : Int)).toNat = p := by rw [hp, Int.toNat_natCast]
      rw [← hp] at hpy hpb
      have HP := Lib.hid hp
      have HI := Lib.hid hi
      have HSV := Lib.hid hsv
      have HIX := Lib.hid hix
      clear hp hi hsv hix
      have hlN := Lib.hid (candTo_len M.oa M.r1 first y k)
      obtain ⟨c2, c3, c4, c5, c6, hvr, hrr⟩ := F
      have HVR := Lib.hid hvr
      have HRR := Lib.hid hrr
      have l0 : bl < wr.heap.size := by have := N.ll; omega
      have l2 : b2 < wr.heap.size := by have := N.l2; omega
      have ne0 : bl ≠ wr.heap.size := by omega
      have ne2 : b2 ≠ wr.heap.size := by omega
      clear hvr hrr
      go_upto_region 4 with fail
      rw [HIX.out]
      go_cut [6] (fun s wx => ∃ bp, s = .pointer (some ⟨bp, 0, none⟩) ∧ wx.heap[bp]? = some (.cells p.arr 56 (0, 0)) ∧ wr.heap.size ≤ bp ∧ Below wr.heap.size wr wx)
      case first =>
        go_region_held3 (fun w' => w'.cell? ⟨b2, 0, none⟩ = some (.pointer (some ⟨bl, 0, none⟩)) ∧ w'.cell? ⟨bl, 1028, none⟩ = some (.pointer (some ⟨bv, 0, none⟩)) ∧ w'.cell? ⟨bl, 1029, none⟩ = some (.pointer (some ⟨bs, so, none⟩))) (first | (go_keep; done) | ((try dsimp only); refine ⟨?_, ?_, ?_⟩ <;> first | (go_keep; done) | with_reducible exact (cell_set10 ne2).trans m0 | with_reducible exact (cell_set10 ne0).trans m1 | with_reducible exact (cell_set10 ne0).trans m2))
          ((go_at_call 13
            first
            | (have hbA := (Below.refl wr.heap.size wr).drew
               have q5 := of_any bv bs so (i : Int) M.vr M.oa M.cg M.r1 (by omega) (by omega) wr.drew (HVR.out.below hbA HVR.out.lt) ((hbA.cell (p := ⟨bs, so + 1, none⟩) (block_lt_of_cell HRR.out)).trans HRR.out) hr0 hr1
               with_reducible refine Calls.mono q5 ?_
               clear q5
               rintro e w1 ⟨rfl, hb1⟩
               rw [HSV.out]
               unfold Sp.v
               have hz1 := hb1.size
               simp at hz1
               have hbB := hbA.trans (hb1.mono (by simp; try omega))
               have m0 : w1.cell? ⟨b2, 0, none⟩ = some (.pointer (some ⟨bl, 0, none⟩)) := (hbB.cell (p := ⟨b2, 0, none⟩) l2).trans c2
               have mm0 : b2 < w1.heap.size := by omega
               have m1 : w1.cell? ⟨bl, 1028, none⟩ = some (.pointer (some ⟨bv, 0, none⟩)) := (hbB.cell (p := ⟨bl, 1028, none⟩) l0).trans c4
               have mm1 : bl < w1.heap.size := by omega
               have m2 : w1.cell? ⟨bl, 1029, none⟩ = some (.pointer (some ⟨bs, so, none⟩)) := (hbB.cell (p := ⟨bl, 1029, none⟩) l0).trans c5
               have mm2 : bl < w1.heap.size := by omega)
            | (have hbA := ((Below.refl _ wr).alloc (Nat.le_refl _) (.cells #[.int .i64 0, .int .i64 0, .int .i64 0, .int .i64 0, .int .u8 0, .int .u8 0, .int .u8 0, .bool false, .bool false, .bool false] 56 (0, 0))).drew
               have q5 := of_any bv bs so (i : Int) M.vr M.oa M.cg M.r1 (by omega) (by omega) (wr.alloc (.cells #[.int .i64 0, .int .i64 0, .int .i64 0, .int .i64 0, .int .u8 0, .int .u8 0, .int .u8 0, .bool false, .bool false, .bool false] 56 (0, 0))).drew (HVR.out.below hbA HVR.out.lt) ((hbA.cell (p := ⟨bs, so + 1, none⟩) (block_lt_of_cell HRR.out)).trans HRR.out) hr0 hr1
               with_reducible refine Calls.mono q5 ?_
               clear q5
               rintro e w1 ⟨rfl, hb1⟩
               rw [HSV.out]
               unfold Sp.v
               have hz1 := hb1.size
               simp at hz1
               have hbB := hbA.trans (hb1.mono (by simp; try omega))
               have m0 : w1.cell? ⟨b2, 0, none⟩ = some (.pointer (some ⟨bl, 0, none⟩)) := (hbB.cell (p := ⟨b2, 0, none⟩) l2).trans c2
               have mm0 : b2 < w1.heap.size := by omega
               have m1 : w1.cell? ⟨bl, 1028, none⟩ = some (.pointer (some ⟨bv, 0, none⟩)) := (hbB.cell (p := ⟨bl, 1028, none⟩) l0).trans c4
               have mm1 : bl < w1.heap.size := by omega
               have m2 : w1.cell? ⟨bl, 1029, none⟩ = some (.pointer (some ⟨bs, so, none⟩)) := (hbB.cell (p := ⟨bl, 1029, none⟩) l0).trans c5
               have mm2 : bl < w1.heap.size := by omega
               have hzz : w1.heap[wr.heap.size]? = some (.cells #[.int .i64 0, .int .i64 0, .int .i64 0, .int .i64 0, .int .u8 0, .int .u8 0, .int .u8 0, .bool false, .bool false, .bool false] 56 (0, 0)) := (hb1.block wr.heap.size (by simp)).trans (heap_alloc_new wr _)
               have hfz := zsp_frozen hzz
               have z0 : w1.cell? ⟨wr.heap.size, 0, none⟩ = some (.int .i64 0) := cell_of_row _ _ _ _ _ _ hzz
               have z1 : w1.cell? ⟨wr.heap.size, 1, none⟩ = some (.int .i64 0) := cell_of_row _ _ _ _ _ _ hzz
               have z2 : w1.cell? ⟨wr.heap.size, 2, none⟩ = some (.int .i64 0) := cell_of_row _ _ _ _ _ _ hzz
               have z3 : w1.cell? ⟨wr.heap.size, 3, none⟩ = some (.int .i64 0) := cell_of_row _ _ _ _ _ _ hzz
               have z4 : w1.cell? ⟨wr.heap.size, 4, none⟩ = some (.int .u8 0) := cell_of_row _ _ _ _ _ _ hzz
               have z5 : w1.cell? ⟨wr.heap.size, 5, none⟩ = some (.int .u8 0) := cell_of_row _ _ _ _ _ _ hzz
               have z6 : w1.cell? ⟨wr.heap.size, 6, none⟩ = some (.int .u8 0) := cell_of_row _ _ _ _ _ _ hzz
               have z7 : w1.cell? ⟨wr.heap.size, 7, none⟩ = some (.bool false) := cell_of_row _ _ _ _ _ _ hzz
               have z8 : w1.cell? ⟨wr.heap.size, 8, none⟩ = some (.bool false) := cell_of_row _ _ _ _ _ _ hzz
               have z9 : w1.cell? ⟨wr.heap.size, 9, none⟩ = some (.bool false) := cell_of_row _ _ _ _ _ _ hzz)))
        all_goals
          go_wp2_with fail
          go_meet
          first
          | (have hs1 := heap_set10 hzz (v0 := .int .i64 p.x) (v1 := .int .i64 p.y) (v2 := .int .i64 p.w) (v3 := .int .i64 p.h) (v4 := .int .u8 p.tile) (v5 := .int .u8 p.pal) (v6 := .int .u8 p.prio) (v7 := .bool p.sec) (v8 := .bool p.fx) (v9 := .bool p.fy)
             exact ⟨wr.heap.size, rfl, hs1, Nat.le_refl _, below_set10 hbB (Nat.le_refl _)⟩)
          | (exact ⟨w1.heap.size, rfl, heap_alloc_new w1 _, by omega, hbB.alloc (by omega) _⟩)
      case rest =>
        obtain ⟨bp, rfl, hob, hbp, hbel⟩ := hcut
        have p0 : wc.cell? ⟨bp, 0, none⟩ = some (.int .i64 p.x) := cell_of_row _ _ _ _ _ _ hob
        have p1 : wc.cell? ⟨bp, 1, none⟩ = some (.int .i64 p.y) := cell_of_row _ _ _ _ _ _ hob
        have p2 : wc.cell? ⟨bp, 2, none⟩ = some (.int .i64 p.w) := cell_of_row _ _ _ _ _ _ hob
        have p3 : wc.cell? ⟨bp, 3, none⟩ = some (.int .i64 p.h) := cell_of_row _ _ _ _ _ _ hob
        have p4 : wc.cell? ⟨bp, 4, none⟩ = some (.int .u8 p.tile) := cell_of_row _ _ _ _ _ _ hob
        have p5 : wc.cell? ⟨bp, 5, none⟩ = some (.int .u8 p.pal) := cell_of_row _ _ _ _ _ _ hob
        have p6 : wc.cell? ⟨bp, 6, none⟩ = some (.int .u8 p.prio) := cell_of_row _ _ _ _ _ _ hob
        have p7 : wc.cell? ⟨bp, 7, none⟩ = some (.bool p.sec) := cell_of_row _ _ _ _ _ _ hob
        have p8 : wc.cell? ⟨bp, 8, none⟩ = some (.bool p.fx) := cell_of_row _ _ _ _ _ _ hob
        have p9 : wc.cell? ⟨bp, 9, none⟩ = some (.bool p.fy) := cell_of_row _ _ _ _ _ _ hob
        have q2 : wc.cell? ⟨b2, 0, none⟩ = some (.pointer (some ⟨bl, 0, none⟩)) := (hbel.cell (p := ⟨b2, 0, none⟩) l2).trans c2
        have q6 : wc.cell? ⟨bl, 1030, none⟩ = some (.int .i64 y) := (hbel.cell (p := ⟨bl, 1030, none⟩) l0).trans c6
        have hbpl : bp < wc.heap.size := (Array.getElem?_eq_some_iff.1 hob).1
        have HOBP := Lib.hid hob
        have HBEL := Lib.hid hbel
        clear hob c2 c3 c4 c5 c6 hbel
        go_wp2_with fail
        have hbD : Below wc.heap.size wc wc.drew := (Below.refl wc.heap.size wc).drew
        go_cut [9] (fun s wx => s = .bool (rowOf p y).2 ∧ Below wc.heap.size wc wx)
        case first =>
          go_region_with
            ((go_at_call 14
              have q5 := row_any p y hpy.1 hpy.2 wc.drew
              unfold Sp.v at q5
              with_reducible refine Calls.mono q5 ?_
              rintro e w2 ⟨rfl, hb2⟩))
          all_goals
            go_wp2_with fail
            go_meet
            exact ⟨rfl, hbD.trans hb2⟩
        case rest =>
        obtain ⟨rfl, hb3⟩ := hcut
        obtain ⟨w2, rfl⟩ : ∃ w2 : World, w2 = wc := ⟨_, rfl⟩
        have hb4 : Below wr.heap.size wr w2 := HBEL.out.trans (hb3.mono HBEL.out.size)
        have hob2 := (hb3.block bp hbpl).trans HOBP.out
        have hJ2 := HJ.out _ _ _ none HJK.out (grownBy_of_below hb4) (fun r e => by cases e)
        have hk2 : ItK n0 bl w w2 := HK.out.trans (ItK.of_below hb4 l0 hn1)
        have HB4 := Lib.hid hb4
        have HJ2 := Lib.hid hJ2
        have HK2 := Lib.hid hk2
        have d0 : w2.cell? ⟨bp, 0, none⟩ = some (.int .i64 p.x) := cell_of_row _ _ _ _ _ _ hob2
        have d1 : w2.cell? ⟨bp, 1, none⟩ = some (.int .i64 p.y) := cell_of_row _ _ _ _ _ _ hob2
        have d2 : w2.cell? ⟨bp, 2, none⟩ = some (.int .i64 p.w) := cell_of_row _ _ _ _ _ _ hob2
        have d3 : w2.cell? ⟨bp, 3, none⟩ = some (.int .i64 p.h) := cell_of_row _ _ _ _ _ _ hob2
        have d4 : w2.cell? ⟨bp, 4, none⟩ = some (.int .u8 p.tile) := cell_of_row _ _ _ _ _ _ hob2
        have d5 : w2.cell? ⟨bp, 5, none⟩ = some (.int .u8 p.pal) := cell_of_row _ _ _ _ _ _ hob2
        have d6 : w2.cell? ⟨bp, 6, none⟩ = some (.int .u8 p.prio) := cell_of_row _ _ _ _ _ _ hob2
        have d7 : w2.cell? ⟨bp, 7, none⟩ = some (.bool p.sec) := cell_of_row _ _ _ _ _ _ hob2
        have d8 : w2.cell? ⟨bp, 8, none⟩ = some (.bool p.fx) := cell_of_row _ _ _ _ _ _ hob2
        have d9 : w2.cell? ⟨bp, 9, none⟩ = some (.bool p.fy) := cell_of_row _ _ _ _ _ _ hob2
        clear p0 p1 p2 p3 p4 p5 p6 p7 p8 p9 q2 q6 hb3 hb4 hob2 hJ2 hk2
        by_cases hon : onLine p y = true
        · have HON := Lib.hid hon
          have hon' := hon
          unfold onLine at hon'
          simp only [Bool.and_eq_true] at hon'
          obtain ⟨o1, o2⟩ := hon'
          have HE := Lib.hid (candTo_on (oa := M.oa) (r1 := M.r1) (first := first) (y := y) (k := k) (by rw [← HI.out, ← HP.out]; exact HON.out))
          obtain ⟨fn, tmps, assign, body, hy, hR⟩ := HY.out _ i w2 HJ2.out (by have := hlN.out; omega)
          rw [show M.sp i = p from HP.out.symm] at hy
          unfold Sp.v at hy
          clear hon
          go_upto_region 6 with fail
          refine (wpIn_wide (n := n)).1 ?_
          gi_wp2
          refine ⟨fun hh => by simp [Fence.wide] at hh, hR.mono ?_⟩
          rintro e W3 (⟨rfl, hJ3, hk3⟩ | ⟨rfl, hJx3⟩)
          · gi_wp2
            go_wp2_with fail
            go_roundw
            case rel => exact ⟨k + 1, by omega, by go_num, by rw [HE.out, ← HI.out]; exact hJ3, HK2.out.trans hk3⟩
            case measure => simp [intOf]; omega
          · gi_wp2
            go_wp2_with fail
            refine bodyPost_ret (results_none rfl _ _ _) rfl ?_
            exact ⟨⟨_, rfl⟩, .inr ⟨_, by rw [HI.out, ← HE.out]; exact candTo_pre _ _ _ _ (by omega), hJx3⟩⟩
        · have hon0 : onLine p y = false := by simpa using hon
          have HON := Lib.hid hon0
          have HE := Lib.hid (candTo_off (oa := M.oa) (r1 := M.r1) (first := first) (y := y) (k := k) (by rw [← HI.out, ← HP.out]; exact HON.out))
          unfold onLine at hon0
          have hc : (rowOf p y).2 = false ∨ ((rowOf p y).2 = true ∧ decide (0 < p.x + p.w) = false) := by
            cases h : (rowOf p y).2
            · exact Or.inl rfl
            · rw [h] at hon0; exact Or.inr ⟨rfl, by simpa using hon0⟩
          clear hon0 hon
          rcases hc with o1 | ⟨o1, o2⟩
          all_goals
            go_wp2_with fail
            go_roundw
            case rel => exact ⟨k + 1, by omega, by go_num, by rw [HE.out]; exact HJ2.out, HK2.out⟩
            case measure => simp [intOf]; omega
    · obtain rfl : k = 128 := by omega
      have t1 : decide (((128 : Nat) : Int) < 128) = false := by decide
      clear F
      go_wp2_with fail
      go_end0
      exact ⟨⟨_, rfl⟩, .inl ⟨_, rfl, HJK.out⟩⟩
end Go.Proofs.Ytoaecfaackkicaa
