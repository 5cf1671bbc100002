/- The walk of the program's fetching of slivers. -/
import Derived.Test.YtoaecfaackkicaaPaint
import Derived.Deep.RegionLaw
namespace Go.Proofs.Ytoaecfaackkicaa
open Go Go.RowKit

theorem But.grown {b : Nat} {a w w' : World} {row : Option Nat} (h : But b a w) (hg : w.grownBy w' row) (hr : ∀ k, row = some k → a.heap.size ≤ k) : But b a w' :=
  ⟨hg.os.trans h.os, hg.tape.trans h.tape, hg.output.trans h.output, Nat.le_trans h.size hg.size, fun k hk hb => (hg.block k (Nat.lt_of_lt_of_le hk h.size) (fun e => by have := hr k e.symm; omega)).trans (h.block k hk hb)⟩

theorem slAll_drop (oa : Nat → Int) (r1 y : Int) (L : List Nat) (j : Nat) (hj : j < L.length) : slAll oa r1 y (L.drop j) = slAll oa r1 y (L.drop (j + 1)) ++ slOf oa r1 y L[j] := by
  rw [List.drop_eq_getElem_cons hj]; rfl
/-- What was fetched is the beginning of all. -/
theorem slAll_pre (oa : Nat → Int) (r1 y : Int) (L : List Nat) : ∀ j, slAll oa r1 y (L.drop j) <+: slAll oa r1 y L := by
  induction L with
  | nil => intro j; simp
  | cons n L ih =>
    intro j
    cases j with
    | zero => exact List.prefix_refl _
    | succ j =>
      obtain ⟨r, hr⟩ := ih j
      exact ⟨r ++ slOf oa r1 y n, by rw [← List.append_assoc]; show slAll oa r1 y (L.drop j) ++ r ++ _ = _; rw [hr]; rfl⟩
theorem slTo_pre (p : Sp) (n row : Int) (c k : Nat) (h : k ≤ c) : slTo p n row k <+: slTo p n row c := by
  induction c with
  | zero => obtain rfl : k = 0 := by omega
            exact List.prefix_refl _
  | succ c ih =>
    by_cases hk : k = c + 1
    · subst hk; exact List.prefix_refl _
    · exact (ih (by omega)).trans (List.prefix_append _ _)
theorem take_of_pre {α : Type} {A R : List α} {x : α} (h : A ++ [x] <+: R) : R.take A.length = A ∧ A.length < R.length := by
  obtain ⟨r, rfl⟩ := h
  rw [List.append_assoc]
  constructor
  · simp
  · simp

set_option maxRecDepth 100000 in
set_option maxHeartbeats 4000000 in
theorem fetch_any (bl bv bs so : Nat) (y : Int) (M : Mem) (fv : Value) (ro : Bool) (F : List Nat) (hF : ∀ n ∈ F, n < 128) (hF2 : F.length ≤ 32) (d0 : Nat → Dt) (Bl : Nat) (w : World)
    (hobj : ObjAt w bl 66 1031 (progC fv (.slice none 0 0) ro false d0 bv bs so y)) (hfv : OwnI Bl w fv (ints F)) (hv : VidAt w bv M.vr M.oa M.cg) (hr : w.cell? ⟨bs, so + 1, none⟩ = some (.int .u8 M.r1)) (hr0 : 0 ≤ M.r1) (hr1 : M.r1 ≤ 255)
    (nv : bv ≠ bl) (ns : bs ≠ bl) :
    Calls Try.prog 18 #[.pointer (some ⟨bl, 0, none⟩)] w fun e w' => e = .returned (.tuple #[]) ∧ ∃ v, ObjAt w' bl 66 1031 (progC fv v ro (decide (34 < (slAll M.oa M.r1 y F).length)) d0 bv bs so y) ∧
      OwnS w.heap.size w' v ((slAll M.oa M.r1 y F).take 34) ∧ But bl w w' := by
  have hneF := ownsRow_ne hfv hobj (by decide)
  obtain ⟨la, lcap, rfl, hc, hm, hx⟩ := hfv.form
  unfold maxLen at hm
  have hbl := hobj.lt
  rw [ints_len] at hc hx hobj ⊢
  obtain ⟨i0, hi, hz0, hz1, hz2⟩ := info_parts Try.infoSl
  obtain ⟨B, hB⟩ : ∃ B, B = w.heap.size := ⟨_, rfl⟩
  rw [← hB] at hbl ⊢
  have hgs : ∀ g, la = some ⟨g, 0, none⟩ → g ≠ bl := fun g hg e => hneF (by rw [hg, e]; rfl)
  have HG := Lib.hid hgs
  have HX := Lib.hid hx
  have HV := Lib.hid hv
  have HR := Lib.hid hr
  have HO := Lib.hid hv.oamB
  have HF := Lib.hid hF
  have HB := Lib.hid hB
  have HOB := Lib.hid hobj
  obtain ⟨N, hN⟩ : ∃ N, N = F.length := ⟨_, rfl⟩
  rw [← hN] at hc hF2 hobj HOB ⊢
  have HN := Lib.hid hN
  obtain ⟨c0, c1, c2, c3, c4, c5, c6⟩ := prog_cells hobj
  clear hgs hx hv hr hF hB hneF hfv hobj hN
  go_enter Try.func18, Try.ntmps18
  go_step3
  go_wp2_with fail
  go_step3
  go_wp2_with fail
  clear c0 c1 c2 c3 c4 c5 c6
  go_loopw [2] (fun i wr => ∃ j : Nat, j ≤ N ∧ i = .int .i64 ((j : Int) - 1) ∧ ∃ v, ObjAt wr bl 66 1031 (progC (.slice la N lcap) v ro false d0 bv bs so y) ∧ OwnS B wr v (slAll M.oa M.r1 y (F.drop j)) ∧ But bl w wr ∧ (slAll M.oa M.r1 y (F.drop j)).length ≤ 34) (fun i _ => (intOf i + 1).toNat)
  case atStart => exact ⟨N, Nat.le_refl _, rfl, _, HOB.out, by rw [HN.out, List.drop_length]; exact (World.ownsRow_nil _ _ _ _ : World.ownsRow _ _ _ _ _ 0 []), But.refl _ _, by rw [HN.out, List.drop_length]; simp [slAll]⟩
  case round =>
    obtain ⟨j, hj, rfl, v, hobj, hown, hbut, hlen⟩ := hrel
    by_cases hlt : 1 ≤ j
    · have t1 : decide ((0 : Int) ≤ (j : Int) - 1) = true := decide_eq_true (by omega)
      have hjL : j - 1 < F.length := by rw [← HN.out]; omega
      obtain ⟨n, hn⟩ : ∃ n : Nat, n = F[j - 1] := ⟨_, rfl⟩
      have hn128 : n < 128 := by rw [hn]; exact HF.out _ (List.getElem_mem _)
      have hcell : ∃ g, la = some ⟨g, 0, none⟩ ∧ g ≠ bl ∧ g < w.heap.size ∧ wr.cell? ⟨g, j - 1, none⟩ = some (.int .i64 (n : Int)) := by
        rcases HX.out with h0 | ⟨g, hg, hg1, hg2, hg3, hg4⟩
        · omega
        · have := hg3 (j - 1) hjL
          rw [ints_get F (j - 1) hjL, ← hn] at this
          exact ⟨g, hg, HG.out g hg, hg2, hbut.cell this (HG.out g hg)⟩
      obtain ⟨g, rfl, hgb, hgw, hcell⟩ := hcell
      have hcw0 : w.cell? ⟨g, j - 1, none⟩ = some (.int .i64 (n : Int)) := by
        rcases HX.out with h0 | ⟨g', hg', hg1, hg2, hg3, hg4⟩
        · omega
        · have := hg3 (j - 1) hjL
          rw [ints_get F (j - 1) hjL, ← hn] at this
          cases hg'; exact this
      have HCW := Lib.hid hcw0
      clear hcw0
      have hdrop := slAll_drop M.oa M.r1 y F (j - 1) hjL
      rw [show j - 1 + 1 = j by omega, ← hn] at hdrop
      have HD := Lib.hid hdrop
      have HPRE := Lib.hid (slAll_pre M.oa M.r1 y F (j - 1))
      clear hdrop hn hjL
      have i1 : (j : Int) - 1 < N := by omega
      have i2 : ((j : Int) - 1).toNat = j - 1 := by omega
      obtain ⟨c0, c1, c2, c3, c4, c5, c6⟩ := prog_cells hobj
      have l1 : g < wr.heap.size := block_lt_of_cell hcell
      have l2 := hobj.lt
      have l3 : bl ≠ wr.heap.size := by omega
      have l4 : g ≠ wr.heap.size := by omega
      have hvr := HV.out.but hbut nv
      have hrr := hbut.cell HR.out ns
      have HVR := Lib.hid hvr
      have HRR := Lib.hid hrr
      have HOJ := Lib.hid hobj
      have HOW := Lib.hid hown
      have HBU := Lib.hid hbut
      obtain ⟨p, hp⟩ : ∃ p, p = spOf M.oa M.r1 n := ⟨_, rfl⟩
      have hpy := spOf_y M.oa HO.out M.r1 n
      have hpb := spOf_bd M.oa HO.out M.r1 n
      have hsv : spOf M.oa M.r1 ((n : Int)).toNat = p := by rw [hp, Int.toNat_natCast]
      have HSV := Lib.hid hsv
      rw [← hp] at hpy hpb
      have HP := Lib.hid hp
      clear hp hvr hrr hobj hown hbut hsv
      go_upto_region 3 with fail
      go_cut [3] (fun s3 wx => ∃ bp, s3 = .pointer (some ⟨bp, 0, none⟩) ∧ wx.heap[bp]? = some (.cells p.arr 56 (0, 0)) ∧ wr.heap.size ≤ bp ∧ Below wr.heap.size wr wx)
      case first =>
        go_region_held3 (fun w' => w'.cell? ⟨bl, 1028, none⟩ = some (.pointer (some ⟨bv, 0, none⟩)) ∧ w'.cell? ⟨bl, 1029, none⟩ = some (.pointer (some ⟨bs, so, none⟩)) ∧ w'.cell? ⟨bl, 0, none⟩ = some (.slice (some ⟨g, 0, none⟩) N lcap) ∧ w'.cell? ⟨g, j - 1, none⟩ = some (.int .i64 (n : Int))) (first | (go_keep; done) | ((try dsimp only); refine ⟨?_, ?_, ?_, ?_⟩ <;> first | (go_keep; done) | with_reducible exact (cell_set10 l3).trans m1 | with_reducible exact (cell_set10 l3).trans m2 | with_reducible exact (cell_set10 l3).trans m3 | with_reducible exact (cell_set10 l4).trans m6))
          ((go_at_call 13
            first
            | (have hbA := (Below.refl wr.heap.size wr).drew
               have q5 := of_any bv bs so (n : Int) M.vr M.oa M.cg M.r1 (by omega) (by omega) wr.drew (HVR.out.below hbA HVR.out.lt) ((hbA.cell (p := ⟨bs, so + 1, none⟩) (block_lt_of_cell HRR.out)).trans HRR.out) hr0 hr1
               with_reducible refine Calls.mono q5 ?_
               clear q5
               rintro e w1 ⟨rfl, hb1⟩
               rw [HSV.out]
               unfold Sp.v
               have hz1 := hb1.size
               simp at hz1
               have hbB := hbA.trans (hb1.mono (by simp; try omega))
               have m1 : w1.cell? ⟨bl, 1028, none⟩ = some (.pointer (some ⟨bv, 0, none⟩)) := (hbB.cell (p := ⟨bl, 1028, none⟩) l2).trans c4
               have m2 : w1.cell? ⟨bl, 1029, none⟩ = some (.pointer (some ⟨bs, so, none⟩)) := (hbB.cell (p := ⟨bl, 1029, none⟩) l2).trans c5
               have m3 : w1.cell? ⟨bl, 0, none⟩ = some (.slice (some ⟨g, 0, none⟩) N lcap) := (hbB.cell (p := ⟨bl, 0, none⟩) l2).trans c0
               have m6 : w1.cell? ⟨g, j - 1, none⟩ = some (.int .i64 (n : Int)) := (hbB.cell (p := ⟨g, j - 1, none⟩) l1).trans hcell
               have m4 : bl < w1.heap.size := by omega
               have m5 : g < w1.heap.size := by omega)
            | (have hbA := ((Below.refl _ wr).alloc (Nat.le_refl _) (.cells #[.int .i64 0, .int .i64 0, .int .i64 0, .int .i64 0, .int .u8 0, .int .u8 0, .int .u8 0, .bool false, .bool false, .bool false] 56 (0, 0))).drew
               have q5 := of_any bv bs so (n : Int) M.vr M.oa M.cg M.r1 (by omega) (by omega) (wr.alloc (.cells #[.int .i64 0, .int .i64 0, .int .i64 0, .int .i64 0, .int .u8 0, .int .u8 0, .int .u8 0, .bool false, .bool false, .bool false] 56 (0, 0))).drew (HVR.out.below hbA HVR.out.lt) ((hbA.cell (p := ⟨bs, so + 1, none⟩) (block_lt_of_cell HRR.out)).trans HRR.out) hr0 hr1
               with_reducible refine Calls.mono q5 ?_
               clear q5
               rintro e w1 ⟨rfl, hb1⟩
               rw [HSV.out]
               unfold Sp.v
               have hz1 := hb1.size
               simp at hz1
               have hbB := hbA.trans (hb1.mono (by simp; try omega))
               have m1 : w1.cell? ⟨bl, 1028, none⟩ = some (.pointer (some ⟨bv, 0, none⟩)) := (hbB.cell (p := ⟨bl, 1028, none⟩) l2).trans c4
               have m2 : w1.cell? ⟨bl, 1029, none⟩ = some (.pointer (some ⟨bs, so, none⟩)) := (hbB.cell (p := ⟨bl, 1029, none⟩) l2).trans c5
               have m3 : w1.cell? ⟨bl, 0, none⟩ = some (.slice (some ⟨g, 0, none⟩) N lcap) := (hbB.cell (p := ⟨bl, 0, none⟩) l2).trans c0
               have m6 : w1.cell? ⟨g, j - 1, none⟩ = some (.int .i64 (n : Int)) := (hbB.cell (p := ⟨g, j - 1, none⟩) l1).trans hcell
               have m4 : bl < w1.heap.size := by omega
               have m5 : g < w1.heap.size := by omega
               have hzz : w1.heap[wr.heap.size]? = some (.cells #[.int .i64 0, .int .i64 0, .int .i64 0, .int .i64 0, .int .u8 0, .int .u8 0, .int .u8 0, .bool false, .bool false, .bool false] 56 (0, 0)) := (hb1.block wr.heap.size (by simp)).trans (heap_alloc_new wr _)
               have hfz := zsp_frozen hzz
               have z0 : w1.cell? ⟨wr.heap.size, 0, none⟩ = some (.int .i64 0) := cell_of_row _ _ _ _ _ _ hzz
               have z1 : w1.cell? ⟨wr.heap.size, 1, none⟩ = some (.int .i64 0) := cell_of_row _ _ _ _ _ _ hzz
               have z2 : w1.cell? ⟨wr.heap.size, 2, none⟩ = some (.int .i64 0) := cell_of_row _ _ _ _ _ _ hzz
               have z3 : w1.cell? ⟨wr.heap.size, 3, none⟩ = some (.int .i64 0) := cell_of_row _ _ _ _ _ _ hzz
               have z4 : w1.cell? ⟨wr.heap.size, 4, none⟩ = some (.int .u8 0) := cell_of_row _ _ _ _ _ _ hzz
               have z5 : w1.cell? ⟨wr.heap.size, 5, none⟩ = some (.int .u8 0) := cell_of_row _ _ _ _ _ _ hzz
               have z6 : w1.cell? ⟨wr.heap.size, 6, none⟩ = some (.int .u8 0) := cell_of_row _ _ _ _ _ _ hzz
               have z7 : w1.cell? ⟨wr.heap.size, 7, none⟩ = some (.bool false) := cell_of_row _ _ _ _ _ _ hzz
               have z8 : w1.cell? ⟨wr.heap.size, 8, none⟩ = some (.bool false) := cell_of_row _ _ _ _ _ _ hzz
               have z9 : w1.cell? ⟨wr.heap.size, 9, none⟩ = some (.bool false) := cell_of_row _ _ _ _ _ _ hzz)))
        all_goals
          go_wp2_with fail
          go_meet
          first
          | (have hs1 := heap_set10 hzz (v0 := .int .i64 p.x) (v1 := .int .i64 p.y) (v2 := .int .i64 p.w) (v3 := .int .i64 p.h) (v4 := .int .u8 p.tile) (v5 := .int .u8 p.pal) (v6 := .int .u8 p.prio) (v7 := .bool p.sec) (v8 := .bool p.fx) (v9 := .bool p.fy)
             exact ⟨wr.heap.size, rfl, hs1, Nat.le_refl _, below_set10 hbB (Nat.le_refl _)⟩)
          | (exact ⟨w1.heap.size, rfl, heap_alloc_new w1 _, by omega, hbB.alloc (by omega) _⟩)
      case rest =>
        obtain ⟨bp, rfl, hob, hbp, hbel⟩ := hcut
        have p0 : wc.cell? ⟨bp, 0, none⟩ = some (.int .i64 p.x) := cell_of_row _ _ _ _ _ _ hob
        have p1 : wc.cell? ⟨bp, 1, none⟩ = some (.int .i64 p.y) := cell_of_row _ _ _ _ _ _ hob
        have p2 : wc.cell? ⟨bp, 2, none⟩ = some (.int .i64 p.w) := cell_of_row _ _ _ _ _ _ hob
        have p3 : wc.cell? ⟨bp, 3, none⟩ = some (.int .i64 p.h) := cell_of_row _ _ _ _ _ _ hob
        have p4 : wc.cell? ⟨bp, 4, none⟩ = some (.int .u8 p.tile) := cell_of_row _ _ _ _ _ _ hob
        have p5 : wc.cell? ⟨bp, 5, none⟩ = some (.int .u8 p.pal) := cell_of_row _ _ _ _ _ _ hob
        have p6 : wc.cell? ⟨bp, 6, none⟩ = some (.int .u8 p.prio) := cell_of_row _ _ _ _ _ _ hob
        have p7 : wc.cell? ⟨bp, 7, none⟩ = some (.bool p.sec) := cell_of_row _ _ _ _ _ _ hob
        have p8 : wc.cell? ⟨bp, 8, none⟩ = some (.bool p.fx) := cell_of_row _ _ _ _ _ _ hob
        have p9 : wc.cell? ⟨bp, 9, none⟩ = some (.bool p.fy) := cell_of_row _ _ _ _ _ _ hob
        have hoc := HOJ.out.below hbel l2
        obtain ⟨-, -, -, -, -, -, q6⟩ := prog_cells hoc
        have hbpl : bp < wc.heap.size := (Array.getElem?_eq_some_iff.1 hob).1
        have HOBP := Lib.hid hob
        have hbld : bl < wc.heap.size := hoc.lt
        have HOC := Lib.hid hoc
        clear hob hoc c0 c1 c2 c3 c4 c5 c6 hcell
        go_wp2_with fail
        have hbD : Below wc.heap.size wc wc.drew := (Below.refl wc.heap.size wc).drew
        go_cut [5] (fun s5 wx => s5 = .int .i64 (rowOf p y).1 ∧ Below wc.heap.size wc wx)
        case first =>
          go_region_with
            ((go_at_call 14
              have q5 := row_any p y hpy.1 hpy.2 wc.drew
              unfold Sp.v at q5
              with_reducible refine Calls.mono q5 ?_
              rintro e w2 ⟨rfl, hb2⟩))
          all_goals
            go_wp2_with fail
            go_meet
            exact ⟨rfl, hbD.trans hb2⟩
        case rest =>
        obtain ⟨rfl, hb3⟩ := hcut
        obtain ⟨w2, rfl⟩ : ∃ w2 : World, w2 = wc := ⟨_, rfl⟩
        have hb4 : Below wr.heap.size wr w2 := hbel.trans (hb3.mono hbel.size)
        have ho2 := HOC.out.below hb3 HOC.out.lt
        have hob2 := (hb3.block bp hbpl).trans HOBP.out
        have hbut2 : But bl w w2 := HBU.out.grow hb4
        have hown2 : OwnS B w2 v (slAll M.oa M.r1 y (F.drop j)) := OwnS.full HOW.out hb4
        have c2' : w2.cell? ⟨bp, 2, none⟩ = some (.int .i64 p.w) := cell_of_row _ _ _ _ _ _ hob2
        have HO2 := Lib.hid ho2
        have HOB2 := Lib.hid hob2
        have HBU2 := Lib.hid hbut2
        have HOW2 := Lib.hid hown2
        obtain ⟨row, hrow⟩ : ∃ row, row = (rowOf p y).1 := ⟨_, rfl⟩
        rw [← hrow]
        have HRow := Lib.hid hrow
        have hw8 : p.w / 8 ≤ 8 := by omega
        obtain ⟨W, hW⟩ : ∃ W : Nat, (W : Int) = p.w / 8 := ⟨(p.w / 8).toNat, by omega⟩
        have HW := Lib.hid hW
        have hW8 : W ≤ 8 := by omega
        have hx0 := hpb.1
        have hx1 := hpb.2.1
        have hw0 : 0 ≤ p.w := by omega
        have xq0 : p.w.tdiv 8 = (W : Int) := by rw [Int.tdiv_eq_ediv_of_nonneg hw0, hW]
        have xq : RowKit.wrap64 (p.w.tdiv 8) = (W : Int) := by rw [xq0]; unfold RowKit.wrap64; omega
        clear xq0 p0 p1 p2 p3 p4 p5 p6 p7 p8 p9 q6 hrow hW ho2 hob2 hbut2 hown2 hb3 hb4 hw8 hpy hpb
        go_wp2_with fail
        obtain ⟨wo, rfl⟩ : ∃ wo : World, wo = wr := ⟨_, rfl⟩
        obtain ⟨A, hA⟩ : ∃ A, A = slAll M.oa M.r1 y (F.drop j) := ⟨_, rfl⟩
        have HA := Lib.hid hA
        rw [← hA] at hlen
        clear c2' hA
        rw [xq]
        clear xq
        go_loopw [52] (fun c wi => ∃ k : Nat, k ≤ W ∧ c = .int .i64 k ∧ ∃ v, ObjAt wi bl 66 1031 (progC (.slice (some ⟨g, 0, none⟩) N lcap) v ro false d0 bv bs so y) ∧ OwnS B wi v (A ++ slTo p n row k) ∧ But bl w wi ∧ (A ++ slTo p n row k).length ≤ 34 ∧ wi.heap[bp]? = some (.cells p.arr 56 (0, 0))) (fun c _ => W - (intOf c).toNat)
        case atStart => exact ⟨0, by omega, rfl, _, HO2.out, by rw [HA.out]; simpa [slTo] using HOW2.out, HBU2.out, by simpa [slTo] using hlen, HOB2.out⟩
        case round =>
          obtain ⟨k, hk, rfl, v, hobj, hown, hbutk, hlenk, hobk⟩ := hrel
          have q0 : wr.cell? ⟨bp, 0, none⟩ = some (.int .i64 p.x) := cell_of_row _ _ _ _ _ _ hobk
          have HOK := Lib.hid hobj
          have HWK := Lib.hid hown
          have HBK := Lib.hid hbutk
          have HPK := Lib.hid hobk
          have HLK := Lib.hid hlenk
          have lbl := hobj.lt
          by_cases hkW : k < W
          · have t2 : decide ((k : Int) < W) = true := decide_eq_true (by omega)
            have x1 := IntWalk.i64_in (8 * (k : Int)) (by omega)
            have x2 := IntWalk.i64_in (p.x + 8 * (k : Int)) (by omega)
            have hout : ¬ (-7 ≤ p.x + 8 * (k : Int) ∧ p.x + 8 * (k : Int) ≤ 255) → A ++ slTo p n row (k + 1) = A ++ slTo p n row k := fun h => by simp only [slTo, if_neg h, List.append_nil]
            have hins : (-7 ≤ p.x + 8 * (k : Int) ∧ p.x + 8 * (k : Int) ≤ 255) → A ++ slTo p n row (k + 1) = (A ++ slTo p n row k) ++ [⟨n, p.x + 8 * (k : Int), k, row⟩] := fun h => by simp only [slTo, if_pos h, List.append_assoc]
            have HOUT := Lib.hid hout
            have HINS := Lib.hid hins
            clear hobj hown hbutk hobk hlenk hout hins
            by_cases h1 : p.x + 8 * (k : Int) ≤ -8
            · have b1 : decide (p.x + 8 * (k : Int) ≤ -8) = true := decide_eq_true h1
              have HE := Lib.hid (HOUT.out (by omega))
              clear h1
              go_wp2_with fail
              go_roundw
              case rel => exact ⟨k + 1, by omega, by go_num, v, HOK.out, by rw [HE.out]; exact HWK.out, HBK.out, by rw [HE.out]; exact HLK.out, HPK.out⟩
              case measure => simp [intOf]; omega
            · have b1 : decide (p.x + 8 * (k : Int) ≤ -8) = false := decide_eq_false h1
              by_cases h2 : 256 ≤ p.x + 8 * (k : Int)
              · have b2 : decide (256 ≤ p.x + 8 * (k : Int)) = true := decide_eq_true h2
                have HE := Lib.hid (HOUT.out (by omega))
                clear h1 h2
                go_wp2_with fail
                go_roundw
                case rel => exact ⟨k + 1, by omega, by go_num, v, HOK.out, by rw [HE.out]; exact HWK.out, HBK.out, by rw [HE.out]; exact HLK.out, HPK.out⟩
                case measure => simp [intOf]; omega
              · have b2 : decide (256 ≤ p.x + 8 * (k : Int)) = false := decide_eq_false h2
                have HE := Lib.hid (HINS.out (by omega))
                have hneb := ownsRow_ne HWK.out HOK.out (by decide)
                have hnep := ownsRow_ne HWK.out HPK.out (by decide)
                obtain ⟨sa, scap, rfl, hsc, hsm, -⟩ := HWK.out.form
                obtain ⟨q, hq⟩ : ∃ q, q = (A ++ slTo p n row k).length := ⟨_, rfl⟩
                have hlk := HLK.out
                rw [← hq] at HOK hsc hlk hneb hnep
                have HQ := Lib.hid hq
                have HWQ : Hid (OwnS B wr (.slice sa q scap) (A ++ slTo p n row k)) := by have := HWK.out; rw [← hq] at this; exact this
                obtain ⟨c0, c1, c2, c3, c4, c5, c6⟩ := prog_cells HOK.out
                have hfz := HOK.out.frozen
                unfold maxLen at hsm
                clear h1 h2 HWK hq
                by_cases h34 : q = 34
                · have t3 : ((q : Int) == 34) = true := by simp [h34]
                  have t3' : decide ((q : Int) = 34) = true := decide_eq_true (by omega)
                  have h34' := h34
                  clear h34
                  go_wp2_with fail
                  rw [Exit.noGoto_normal]
                  go_end0
                  obtain ⟨hT1, hT2⟩ := take_of_pre (A := A ++ slTo p n row k) (R := slAll M.oa M.r1 y F) (x := ⟨n, p.x + 8 * (k : Int), k, row⟩) (by
                    rw [← HE.out]
                    refine List.IsPrefix.trans ?_ HPRE.out
                    rw [HD.out, HA.out]
                    unfold slOf
                    rw [← HP.out, ← HRow.out, ← HW.out]
                    exact (List.prefix_append_right_inj _).2 (slTo_pre _ _ _ _ _ (by omega)))
                  rw [← HQ.out, h34'] at hT1 hT2
                  refine ⟨rfl, .slice sa q scap, ?_, ?_, HBK.out.setCell _ _⟩
                  · rw [decide_eq_true hT2]
                    have h := HOK.out.set 3 (.bool true)
                    rw [prog_of_line (line_upd_late _ _ _ _ true _) (by omega)] at h
                    exact h
                  · rw [hT1]
                    exact (Chg.setCell bl 3 _ _).but.own HWQ.out hneb
                · have t3 : ((q : Int) == 34) = false := by simp; omega
                  have t3' : decide ((q : Int) = 34) = false := decide_eq_false (by omega)
                  have hcg1 : wr.cell? ⟨g, j - 1, none⟩ = some (.int .i64 (n : Int)) := HBK.out.cell HCW.out hgb
                  have lg : g < wr.heap.size := block_lt_of_cell hcg1
                  have lbp : bp < wr.heap.size := block_lt_of_cell q0
                  have hB1 : B ≤ wr.heap.size := by rw [HB.out]; exact HBK.out.size
                  have hngo : some g ≠ (Value.slice sa q scap).ownBlock := by
                    intro e
                    have := (World.ownsRow.lt HWQ.out g e.symm).1
                    have := HB.out; omega
                  have hbA := ((Below.refl wr.heap.size wr).alloc (Nat.le_refl _) (.cells #[.int .i64 n, .int .i64 (p.x + 8 * (k : Int)), .int .i64 k, .int .i64 row] 52 (0, 0))).drew
                  have hca : (wr.alloc (.cells #[.int .i64 n, .int .i64 (p.x + 8 * (k : Int)), .int .i64 k, .int .i64 row] 52 (0, 0))).drew.cell? ⟨bl, 0, none⟩ = some (.slice (some ⟨g, 0, none⟩) N lcap) := (hbA.cell (p := ⟨bl, 0, none⟩) lbl).trans c0
                  have hcb : (wr.alloc (.cells #[.int .i64 n, .int .i64 (p.x + 8 * (k : Int)), .int .i64 k, .int .i64 row] 52 (0, 0))).drew.cell? ⟨g, j - 1, none⟩ = some (.int .i64 (n : Int)) := (hbA.cell (p := ⟨g, j - 1, none⟩) lg).trans hcg1
                  have hoa : ObjAt (wr.alloc (.cells #[.int .i64 n, .int .i64 (p.x + 8 * (k : Int)), .int .i64 k, .int .i64 row] 52 (0, 0))).drew bl 66 1031 (progC (.slice (some ⟨g, 0, none⟩) N lcap) (.slice sa q scap) ro false d0 bv bs so y) := (HOK.out.alloc (.cells #[.int .i64 n, .int .i64 (p.x + 8 * (k : Int)), .int .i64 k, .int .i64 row] 52 (0, 0)))
                  have hne1 : (⟨bl, 1, none⟩ : Addr) ≠ ⟨bl, 0, none⟩ := by simp
                  have hne2 : (⟨bl, 1, none⟩ : Addr) ≠ ⟨g, j - 1, none⟩ := fun e => hgb (congrArg Addr.block e).symm
                  have HNW := Lib.hid (World.ownsRow.alloc HWQ.out (.cells #[.int .i64 n, .int .i64 (p.x + 8 * (k : Int)), .int .i64 k, .int .i64 row] 52 (0, 0)))
                  have HQ2 := Lib.hid HQ.out
                  have HOA := Lib.hid hoa
                  have HNG := Lib.hid hngo
                  have HNB := Lib.hid hneb
                  have HNP := Lib.hid hnep
                  clear h34 hoa hngo hneb hnep
                  go_wp2_with fail
                  go_region_law
                    ((refine step_append_lies _ (by rfl) _ _ _ (by rfl) B 52 i0 (.agg #[.int .i64 0, .int .i64 0, .int .i64 0, .int .i64 0]) 4 32 Try.underlying36 hi hz0 hz1 hz2 rfl (by decide) (.slice sa q scap) _ _ (by rfl) HNW.out.drew ⟨wr.heap.size, 0, none⟩ 1 1 [.int .i64 n, .int .i64 (p.x + 8 * (k : Int)), .int .i64 k, .int .i64 row] (by rfl) (by rfl) (World.news_of_block (cs := #[.int .i64 n, .int .i64 (p.x + 8 * (k : Int)), .int .i64 k, .int .i64 row]) (t := 52) (fr := (0, 0)) (heap_alloc_new wr _)) (by simp [Value.oneCell']) (by decide) (by rw [← HQ2.out]; unfold maxLen; omega) (by rw [← HQ2.out]; omega) (by simp; omega) (wr.heap.size + 1) (by simp) ?_
                      intro gg cap w1 hown1 hgrow hat hlt1
                      have n0 : w1.cell? ⟨bl, 0, none⟩ = some (.slice (some ⟨g, 0, none⟩) N lcap) := hgrow.cell hca (fun e => HNB.out e.symm)
                      have n2 : w1.cell? ⟨g, j - 1, none⟩ = some (.int .i64 (n : Int)) := hgrow.cell hcb HNG.out
                      have ho1 : ObjAt w1 bl 66 1031 (progC (.slice (some ⟨g, 0, none⟩) N lcap) (.slice sa q scap) ro false d0 bv bs so y) := (hgrow.block bl HOA.out.lt (fun e => HNB.out e.symm)).trans HOA.out
                      have n1 := ho1.cell (i := 1) (by omega)
                      have nf := ho1.frozen 1
                      have HO1 := Lib.hid ho1
                      clear ho1))
                  all_goals
                    go_wp2_with fail
                    go_roundw
                    case rel =>
                      have hlen4 : (A ++ slTo p n row (k + 1)).length = q + 1 := by rw [HE.out, List.length_append, ← HQ2.out]; rfl
                      have hown2 : OwnS B w1 (.slice (some ⟨gg, 0, none⟩) (q + 1) cap) (A ++ slTo p n row (k + 1)) := by
                        unfold OwnS
                        rw [hlen4, HE.out, HQ2.out]
                        simpa [Sl.cs, iv] using hown1
                      have hbg : But bl w w1 := ((HBK.out.alloc _).drewN 1).grown hgrow (fun g' hg' => by have := (World.ownsRow.lt HWQ.out g' hg').1; have := HB.out; omega)
                      have hbp1 : w1.heap[bp]? = some (.cells p.arr 56 (0, 0)) := (hgrow.block bp (by simp; omega) (fun e => HNP.out e.symm)).trans ((Below.heap_alloc wr _ bp lbp).trans HPK.out)
                      refine ⟨k + 1, by omega, by go_num, .slice (some ⟨gg, 0, none⟩) (q + 1) cap, ?_, ?_, ?_, ?_, ?_⟩
                      · have h := HO1.out.set 1 (.slice (some ⟨gg, 0, none⟩) (q + 1) cap)
                        rw [prog_of_line (line_upd_sv _ _ (.slice (some ⟨gg, 0, none⟩) (q + 1) cap) _ _ _) (by omega)] at h
                        have hq3 : A.length + (slTo p n row k).length = q := by rw [HQ2.out, List.length_append]
                        rw [hq3]
                        exact h
                      · exact (Chg.setCell bl 1 _ _).but.own hown2 (ownsRow_ne hown2 HO1.out (by decide))
                      · exact hbg.setCell _ _
                      · rw [hlen4]; have := of_decide_eq_false t3'; omega
                      · exact (Below.heap_setCell w1 ⟨bl, 1, none⟩ _ bp (fun e => by have e' : bp = bl := e; omega)).trans hbp1
                    case measure => simp [intOf]; omega
          · obtain rfl : k = W := by omega
            have t2 : decide ((k : Int) < k) = false := decide_eq_false (by omega)
            clear hobj hown hbutk hobk hlenk
            go_wp2_with fail
            go_roundw
            case rel =>
              have e : A ++ slTo p n row k = slAll M.oa M.r1 y (F.drop (j - 1)) := by
                rw [HD.out, HA.out]
                unfold slOf; rw [← HP.out, ← HRow.out, ← HW.out]; rfl
              refine ⟨j - 1, by omega, ?_, v, HOK.out, ?_, HBK.out, ?_⟩
              · rw [show (((j - 1 : Nat) : Int) - 1) = (j : Int) - 1 - 1 by omega]
              · rw [← e]; exact HWK.out
              · rw [← e]; exact HLK.out
            case measure => simp [intOf]; omega
    · obtain rfl : j = 0 := by omega
      have t1 : decide ((0 : Int) ≤ ((0 : Nat) : Int) - 1) = false := by decide
      rw [List.drop_zero] at hown hlen
      have HOJ := Lib.hid hobj
      have HOW := Lib.hid hown
      have HBU := Lib.hid hbut
      have HL := Lib.hid hlen
      clear hobj hown hbut hlen
      go_wp2_with fail
      try rw [Exit.noGoto_normal]
      go_end0
      refine ⟨rfl, v, ?_, ?_, HBU.out⟩
      · rw [decide_eq_false (by have := HL.out; omega)]; exact HOJ.out
      · rw [List.take_of_length_le HL.out]; exact HOW.out
end Go.Proofs.Ytoaecfaackkicaa
