/- The walk of the program's painting of slivers. -/
import Derived.Test.YtoaecfaackkicaaRLine
namespace Go.Proofs.Ytoaecfaackkicaa
open Go Go.RowKit

/-- The program's line in its making: the answer, then the memories, the registers, the line's number. -/
def progC (fv sv : Value) (ro late : Bool) (d : Nat → Dt) (bv bs so : Nat) (y : Int) : Nat → Value := fun i =>
  if i < 1028 then lineC fv sv ro late d i else if i = 1028 then .pointer (some ⟨bv, 0, none⟩) else if i = 1029 then .pointer (some ⟨bs, so, none⟩) else .int .i64 y
theorem prog_cells {w : World} {b t : Nat} {fv sv : Value} {ro late : Bool} {d : Nat → Dt} {bv bs so : Nat} {y : Int} (h : ObjAt w b t 1031 (progC fv sv ro late d bv bs so y)) :
    w.cell? ⟨b, 0, none⟩ = some fv ∧ w.cell? ⟨b, 1, none⟩ = some sv ∧ w.cell? ⟨b, 2, none⟩ = some (.bool ro) ∧ w.cell? ⟨b, 3, none⟩ = some (.bool late) ∧
    w.cell? ⟨b, 1028, none⟩ = some (.pointer (some ⟨bv, 0, none⟩)) ∧ w.cell? ⟨b, 1029, none⟩ = some (.pointer (some ⟨bs, so, none⟩)) ∧ w.cell? ⟨b, 1030, none⟩ = some (.int .i64 y) :=
  ⟨h.cell (i := 0) (by omega), h.cell (i := 1) (by omega), h.cell (i := 2) (by omega), h.cell (i := 3) (by omega), h.cell (i := 1028) (by omega), h.cell (i := 1029) (by omega), h.cell (i := 1030) (by omega)⟩
theorem prog_of_line {fv fv' sv sv' : Value} {ro ro' late late' : Bool} {d d' : Nat → Dt} {bv bs so : Nat} {y : Int} {j : Nat} {v : Value} (h : upd (lineC fv sv ro late d) j v = lineC fv' sv' ro' late' d') (hj : j < 1028) :
    upd (progC fv sv ro late d bv bs so y) j v = progC fv' sv' ro' late' d' bv bs so y := by
  funext i
  have := congrFun h i
  unfold upd at this ⊢
  unfold progC
  by_cases h1 : i < 1028
  · rw [if_pos h1, if_pos h1]; exact this
  · rw [if_neg h1, if_neg h1, if_neg (by omega)]
theorem prog_upd_dot (fv sv : Value) (ro late : Bool) (d : Nat → Dt) (k : Nat) (hk : k < 256) (x : Dt) (bv bs so : Nat) (y : Int) :
    upd (upd (upd (upd (progC fv sv ro late d bv bs so y) (4 + k * 4) (.bool x.see)) (4 + k * 4 + 1) (.int .u8 x.prio)) (4 + k * 4 + 2) (.int .u8 x.index)) (4 + k * 4 + 3) (.int .u16 x.colour) = progC fv sv ro late (dput d k x) bv bs so y := by
  have h := line_upd_dot fv sv ro late d k x
  funext i
  have := congrFun h i
  unfold upd at this ⊢
  unfold progC
  by_cases h1 : i < 1028
  · rw [if_pos h1, if_pos h1]; exact this
  · rw [if_neg h1, if_neg h1, if_neg (by omega), if_neg (by omega), if_neg (by omega), if_neg (by omega)]

def paint1 (M : Mem) (s : Sl) (d : Nat → Dt) : Nat → (Nat → Dt)
  | 0 => d
  | k + 1 => if 0 ≤ s.x + (k : Int) ∧ s.x + (k : Int) < 256 ∧ 0 < slNum M s.sp.toNat s (s.x + (k : Int)) then dput (paint1 M s d k) (s.x + (k : Int)).toNat (slDot M s.sp.toNat s (s.x + (k : Int))) else paint1 M s d k
def paintL (M : Mem) (d : Nat → Dt) (S : List Sl) : Nat → Dt := S.foldl (fun d s => paint1 M s d 8) d
theorem paintL_take (M : Mem) (d : Nat → Dt) (S : List Sl) (i : Nat) (h : i < S.length) : paintL M d (S.take (i + 1)) = paint1 M S[i] (paintL M d (S.take i)) 8 := by
  unfold paintL
  rw [List.take_succ_eq_append_getElem h, List.foldl_append]
  rfl

theorem cell_set10 {w : World} {b : Nat} {v0 v1 v2 v3 v4 v5 v6 v7 v8 v9 : Value} {q i : Nat} (h : q ≠ b) :
    ((((((((((w.setCell ⟨b, 0, none⟩ v0).setCell ⟨b, 1, none⟩ v1).setCell ⟨b, 2, none⟩ v2).setCell ⟨b, 3, none⟩ v3).setCell ⟨b, 4, none⟩ v4).setCell ⟨b, 5, none⟩ v5).setCell ⟨b, 6, none⟩ v6).setCell ⟨b, 7, none⟩ v7).setCell ⟨b, 8, none⟩ v8).setCell ⟨b, 9, none⟩ v9).cell? ⟨q, i, none⟩ = w.cell? ⟨q, i, none⟩ := by
  simp only [(Chg.setCell b _ _ _).cell (p := ⟨q, i, none⟩) h]
theorem below_set10 {w a : World} {B b : Nat} {v0 v1 v2 v3 v4 v5 v6 v7 v8 v9 : Value} (k : Below B a w) (h : B ≤ b) :
    Below B a ((((((((((w.setCell ⟨b, 0, none⟩ v0).setCell ⟨b, 1, none⟩ v1).setCell ⟨b, 2, none⟩ v2).setCell ⟨b, 3, none⟩ v3).setCell ⟨b, 4, none⟩ v4).setCell ⟨b, 5, none⟩ v5).setCell ⟨b, 6, none⟩ v6).setCell ⟨b, 7, none⟩ v7).setCell ⟨b, 8, none⟩ v8).setCell ⟨b, 9, none⟩ v9) :=
  below_chg (below_chg (below_chg (below_chg (below_chg (below_chg (below_chg (below_chg (below_chg (below_chg k (Chg.setCell b _ _ _) h) (Chg.setCell b _ _ _) h) (Chg.setCell b _ _ _) h) (Chg.setCell b _ _ _) h) (Chg.setCell b _ _ _) h) (Chg.setCell b _ _ _) h) (Chg.setCell b _ _ _) h) (Chg.setCell b _ _ _) h) (Chg.setCell b _ _ _) h) (Chg.setCell b _ _ _) h
theorem heap_set10 {w : World} {b t : Nat} {u0 u1 u2 u3 u4 u5 u6 u7 u8 u9 v0 v1 v2 v3 v4 v5 v6 v7 v8 v9 : Value} (h : w.heap[b]? = some (.cells #[u0, u1, u2, u3, u4, u5, u6, u7, u8, u9] t (0, 0))) :
    ((((((((((w.setCell ⟨b, 0, none⟩ v0).setCell ⟨b, 1, none⟩ v1).setCell ⟨b, 2, none⟩ v2).setCell ⟨b, 3, none⟩ v3).setCell ⟨b, 4, none⟩ v4).setCell ⟨b, 5, none⟩ v5).setCell ⟨b, 6, none⟩ v6).setCell ⟨b, 7, none⟩ v7).setCell ⟨b, 8, none⟩ v8).setCell ⟨b, 9, none⟩ v9).heap[b]? = some (.cells #[v0, v1, v2, v3, v4, v5, v6, v7, v8, v9] t (0, 0)) := by
  replace h := heap_setCell_same _ b 0 _ t v0 h
  simp only [List.setIfInBounds_toArray, List.set_cons_zero, List.set_cons_succ] at h
  replace h := heap_setCell_same _ b 1 _ t v1 h
  simp only [List.setIfInBounds_toArray, List.set_cons_zero, List.set_cons_succ] at h
  replace h := heap_setCell_same _ b 2 _ t v2 h
  simp only [List.setIfInBounds_toArray, List.set_cons_zero, List.set_cons_succ] at h
  replace h := heap_setCell_same _ b 3 _ t v3 h
  simp only [List.setIfInBounds_toArray, List.set_cons_zero, List.set_cons_succ] at h
  replace h := heap_setCell_same _ b 4 _ t v4 h
  simp only [List.setIfInBounds_toArray, List.set_cons_zero, List.set_cons_succ] at h
  replace h := heap_setCell_same _ b 5 _ t v5 h
  simp only [List.setIfInBounds_toArray, List.set_cons_zero, List.set_cons_succ] at h
  replace h := heap_setCell_same _ b 6 _ t v6 h
  simp only [List.setIfInBounds_toArray, List.set_cons_zero, List.set_cons_succ] at h
  replace h := heap_setCell_same _ b 7 _ t v7 h
  simp only [List.setIfInBounds_toArray, List.set_cons_zero, List.set_cons_succ] at h
  replace h := heap_setCell_same _ b 8 _ t v8 h
  simp only [List.setIfInBounds_toArray, List.set_cons_zero, List.set_cons_succ] at h
  replace h := heap_setCell_same _ b 9 _ t v9 h
  simp only [List.setIfInBounds_toArray, List.set_cons_zero, List.set_cons_succ] at h
  exact h
theorem zsp_frozen {w : World} {b t : Nat} {cs : Array Value} (h : w.heap[b]? = some (.cells cs t (0, 0))) (i : Nat) : w.frozen? ⟨b, i, none⟩ = false := by
  unfold World.frozen?
  rw [show w.heap[(⟨b, i, none⟩ : Addr).block]? = _ from h]
  simp

set_option maxRecDepth 100000 in
set_option maxHeartbeats 4000000 in
theorem paint_any (bl bv bs so : Nat) (y : Int) (M : Mem) (fv sv : Value) (ro late : Bool) (S : List Sl) (hS : ∀ s ∈ S, SlOk M y s) (hS2 : S.length ≤ 34) (d0 : Nat → Dt) (Bs : Nat) (w : World)
    (hobj : ObjAt w bl 66 1031 (progC fv sv ro late d0 bv bs so y)) (hsv : OwnS Bs w sv S) (hv : VidAt w bv M.vr M.oa M.cg) (hcg : ∀ i, 0 ≤ M.cg i ∧ M.cg i ≤ 65535) (hr : w.cell? ⟨bs, so + 1, none⟩ = some (.int .u8 M.r1)) (hr0 : 0 ≤ M.r1) (hr1 : M.r1 ≤ 255)
    (nv : bv ≠ bl) (ns : bs ≠ bl) :
    Calls Try.prog 19 #[.pointer (some ⟨bl, 0, none⟩)] w fun e w' => e = .returned (.tuple #[]) ∧ ObjAt w' bl 66 1031 (progC fv sv ro late (paintL M d0 S) bv bs so y) ∧ But bl w w' := by
  have hneS := ownsRow_ne hsv hobj (by decide)
  obtain ⟨sa, scap, rfl, hsc, hsm, hsx⟩ := hsv.form
  unfold maxLen at hsm
  have hbl := hobj.lt
  obtain ⟨c0, c1, c2, c3, c4, c5, c6⟩ := prog_cells hobj
  have hspok := fun n => spOk M hv.oamB n
  obtain ⟨K, hK⟩ : ∃ K, K = S.length := ⟨_, rfl⟩
  rw [← hK] at hsc hS2 c1 hobj ⊢
  have hgs : ∀ g, sa = some ⟨g, 0, none⟩ → g ≠ bl := fun g hg e => hneS (by rw [hg, e]; rfl)
  have HV := Lib.hid hv
  have HR := Lib.hid hr
  have HS := Lib.hid hS
  have HK := Lib.hid hK
  have HSX := Lib.hid hsx
  have HSP := Lib.hid hspok
  have HOB := Lib.hid hobj
  have HG := Lib.hid hgs
  have HCG := Lib.hid hcg
  clear hv hr hS hK hsx hspok hobj hgs hneS hsv hcg
  go_enter Try.func19, Try.ntmps19
  go_wp2_with fail
  clear c0 c1 c2 c3 c4 c5 c6
  go_loopw [16] (fun i wr => ∃ j : Nat, j ≤ K ∧ i = .int .i64 j ∧ ObjAt wr bl 66 1031 (progC fv (.slice sa K scap) ro late (paintL M d0 (S.take j)) bv bs so y) ∧ But bl w wr) (fun i _ => K - (intOf i).toNat)
  case atStart => exact ⟨0, by omega, rfl, HOB.out, But.refl _ _⟩
  case round =>
    obtain ⟨j, hj, rfl, hobj, hbut⟩ := hrel
    by_cases hlt : j < K
    · have t1 : decide ((j : Int) < K) = true := decide_eq_true (by omega)
      have hjS : j < S.length := by rw [← HK.out]; exact hlt
      obtain ⟨s, hs⟩ : ∃ s, s = S[j] := ⟨_, rfl⟩
      have hso : SlOk M y s := by rw [hs]; exact HS.out _ (List.getElem_mem _)
      have htk := paintL_take M d0 S j hjS
      rw [← hs] at htk
      have HTK := Lib.hid htk
      have hcells : ∃ q, sa = some ⟨q, 0, none⟩ ∧ wr.cell? ⟨q, j * 4, none⟩ = some (.int .i64 s.sp) ∧ wr.cell? ⟨q, j * 4 + 1, none⟩ = some (.int .i64 s.x) ∧ wr.cell? ⟨q, j * 4 + 2, none⟩ = some (.int .i64 s.col) ∧ wr.cell? ⟨q, j * 4 + 3, none⟩ = some (.int .i64 s.row) := by
        rcases HSX.out with h0 | ⟨q, hg, hg1, hg2, hg3, hg4⟩
        · omega
        · obtain ⟨a1, a2, a3, a4⟩ := hg3 j hjS
          have hq := HG.out q hg
          rw [hs]
          exact ⟨q, hg, hbut.cell a1 hq, hbut.cell a2 hq, hbut.cell a3 hq, hbut.cell a4 hq⟩
      obtain ⟨q, rfl, a1, a2, a3, a4⟩ := hcells
      clear htk hs hjS HSX
      have i0 : (0 : Int) ≤ (j : Int) := by omega
      have i1 : (j : Int) < K := by omega
      obtain ⟨c0, c1, c2, c3, c4, c5, c6⟩ := prog_cells hobj
      have l1 := block_lt_of_cell a1
      have l2 := hobj.lt
      have l3 : bl ≠ wr.heap.size + 1 := by omega
      have l4 : bl ≠ wr.heap.size := by omega
      have l5 : wr.heap.size ≠ wr.heap.size + 1 := by omega
      have hvr := HV.out.but hbut nv
      have hrr := hbut.cell HR.out ns
      have HVR := Lib.hid hvr
      have HRR := Lib.hid hrr
      have HO := Lib.hid hobj
      obtain ⟨n, hn, hsp, hcol0, hcol1, hsx, hrow, hsr⟩ := hso.sp
      have SP0 : 0 ≤ s.sp := by omega
      have SP1 : s.sp < 128 := by omega
      clear hvr hrr hobj
      obtain ⟨p, hp⟩ : ∃ p, p = M.sp n := ⟨_, rfl⟩
      have hpo := HSP.out n
      have hsv : spOf M.oa M.r1 s.sp.toNat = p := by rw [hp, hsp]; rfl
      have HSV := Lib.hid hsv
      have hrb := rowOf_bd _ y hrow
      rw [← hsr, ← hp] at hrb
      rw [← hp] at hpo hcol1 hsx
      have HP := Lib.hid hp
      have HPO := Lib.hid hpo
      have HSXX := Lib.hid hsx
      clear hp hsr hrow hsp hsv hsx
      go_upto_region 3 with fail
      go_cut [4] (fun s4 wx => ∃ bp, s4 = .pointer (some ⟨bp, 0, none⟩) ∧ wx.heap[bp]? = some (.cells p.arr 56 (0, 0)) ∧ wx.heap[wr.heap.size]? = some (.cells #[.int .i64 s.sp, .int .i64 s.x, .int .i64 s.col, .int .i64 s.row] 52 (0, 0)) ∧ wr.heap.size < bp ∧ Below wr.heap.size wr wx)
      case first =>
        go_region_held3 (fun w' => w'.cell? ⟨bl, 1028, none⟩ = some (.pointer (some ⟨bv, 0, none⟩)) ∧ w'.cell? ⟨bl, 1029, none⟩ = some (.pointer (some ⟨bs, so, none⟩)) ∧ w'.cell? ⟨wr.heap.size, 0, none⟩ = some (.int .i64 s.sp)) (first | (go_keep; done) | ((try dsimp only); refine ⟨?_, ?_, ?_⟩ <;> first | (go_keep; done) | exact (cell_set10 l3).trans m1 | exact (cell_set10 l3).trans m2 | exact (cell_set10 l5).trans m3))
          ((go_at_call 13
            first
            | (have hbA := ((Below.refl _ wr).alloc (Nat.le_refl _) (.cells #[.int .i64 s.sp, .int .i64 s.x, .int .i64 s.col, .int .i64 s.row] 52 (0, 0))).drew
               refine (of_any bv bs so s.sp M.vr M.oa M.cg M.r1 SP0 SP1 (wr.alloc (.cells #[.int .i64 s.sp, .int .i64 s.x, .int .i64 s.col, .int .i64 s.row] 52 (0, 0))).drew (HVR.out.below hbA HVR.out.lt) ((hbA.cell (p := ⟨bs, so + 1, none⟩) (block_lt_of_cell HRR.out)).trans HRR.out) hr0 hr1).mono ?_
               rintro e w1 ⟨rfl, hb1⟩
               rw [HSV.out]
               unfold Sp.v
               have hz1 := hb1.size
               simp at hz1
               have m1 : w1.cell? ⟨bl, 1028, none⟩ = some (.pointer (some ⟨bv, 0, none⟩)) := (hb1.cell (p := ⟨bl, 1028, none⟩) (by simp; omega)).trans ((hbA.cell (p := ⟨bl, 1028, none⟩) l2).trans c4)
               have m2 : w1.cell? ⟨bl, 1029, none⟩ = some (.pointer (some ⟨bs, so, none⟩)) := (hb1.cell (p := ⟨bl, 1029, none⟩) (by simp; omega)).trans ((hbA.cell (p := ⟨bl, 1029, none⟩) l2).trans c5)
               have m3 : w1.cell? ⟨wr.heap.size, 0, none⟩ = some (.int .i64 s.sp) := (hb1.cell (p := ⟨wr.heap.size, 0, none⟩) (by simp; try omega)).trans (cell_of_row _ _ _ _ _ _ (heap_alloc_new wr _))
               have m4 : bl < w1.heap.size := by omega
               have m5 : wr.heap.size < w1.heap.size := by omega
               have hq1 : w1.heap[wr.heap.size]? = some (.cells #[.int .i64 s.sp, .int .i64 s.x, .int .i64 s.col, .int .i64 s.row] 52 (0, 0)) := (hb1.block wr.heap.size (by simp; try omega)).trans (heap_alloc_new wr _))
            | (have hbA := (((Below.refl _ wr).alloc (Nat.le_refl _) (.cells #[.int .i64 s.sp, .int .i64 s.x, .int .i64 s.col, .int .i64 s.row] 52 (0, 0))).alloc (by simp) (.cells #[.int .i64 0, .int .i64 0, .int .i64 0, .int .i64 0, .int .u8 0, .int .u8 0, .int .u8 0, .bool false, .bool false, .bool false] 56 (0, 0))).drew
               refine (of_any bv bs so s.sp M.vr M.oa M.cg M.r1 SP0 SP1 ((wr.alloc (.cells #[.int .i64 s.sp, .int .i64 s.x, .int .i64 s.col, .int .i64 s.row] 52 (0, 0))).alloc (.cells #[.int .i64 0, .int .i64 0, .int .i64 0, .int .i64 0, .int .u8 0, .int .u8 0, .int .u8 0, .bool false, .bool false, .bool false] 56 (0, 0))).drew (HVR.out.below hbA HVR.out.lt) ((hbA.cell (p := ⟨bs, so + 1, none⟩) (block_lt_of_cell HRR.out)).trans HRR.out) hr0 hr1).mono ?_
               rintro e w1 ⟨rfl, hb1⟩
               rw [HSV.out]
               unfold Sp.v
               have hz1 := hb1.size
               simp at hz1
               have m1 : w1.cell? ⟨bl, 1028, none⟩ = some (.pointer (some ⟨bv, 0, none⟩)) := (hb1.cell (p := ⟨bl, 1028, none⟩) (by simp; omega)).trans ((hbA.cell (p := ⟨bl, 1028, none⟩) l2).trans c4)
               have m2 : w1.cell? ⟨bl, 1029, none⟩ = some (.pointer (some ⟨bs, so, none⟩)) := (hb1.cell (p := ⟨bl, 1029, none⟩) (by simp; omega)).trans ((hbA.cell (p := ⟨bl, 1029, none⟩) l2).trans c5)
               have m3 : w1.cell? ⟨wr.heap.size, 0, none⟩ = some (.int .i64 s.sp) := (hb1.cell (p := ⟨wr.heap.size, 0, none⟩) (by simp; try omega)).trans ((World.cell?_alloc_past _ _ _ (by simp)).trans (cell_of_row _ _ _ _ _ _ (heap_alloc_new wr _)))
               have m4 : bl < w1.heap.size := by omega
               have m5 : wr.heap.size < w1.heap.size := by omega
               have hq1 : w1.heap[wr.heap.size]? = some (.cells #[.int .i64 s.sp, .int .i64 s.x, .int .i64 s.col, .int .i64 s.row] 52 (0, 0)) := (hb1.block wr.heap.size (by simp; try omega)).trans ((Below.heap_alloc (wr.alloc (.cells #[.int .i64 s.sp, .int .i64 s.x, .int .i64 s.col, .int .i64 s.row] 52 (0, 0))) _ wr.heap.size (by simp)).trans (heap_alloc_new wr _))
               have hzz : w1.heap[wr.heap.size + 1]? = some (.cells #[.int .i64 0, .int .i64 0, .int .i64 0, .int .i64 0, .int .u8 0, .int .u8 0, .int .u8 0, .bool false, .bool false, .bool false] 56 (0, 0)) := (hb1.block (wr.heap.size + 1) (by simp)).trans (by have := heap_alloc_new (wr.alloc (.cells #[.int .i64 s.sp, .int .i64 s.x, .int .i64 s.col, .int .i64 s.row] 52 (0, 0))) (.cells #[.int .i64 0, .int .i64 0, .int .i64 0, .int .i64 0, .int .u8 0, .int .u8 0, .int .u8 0, .bool false, .bool false, .bool false] 56 (0, 0)); rw [show (wr.alloc (.cells #[.int .i64 s.sp, .int .i64 s.x, .int .i64 s.col, .int .i64 s.row] 52 (0, 0))).heap.size = wr.heap.size + 1 by simp] at this; exact this)
               have hfz := zsp_frozen hzz
               have z0 : w1.cell? ⟨wr.heap.size + 1, 0, none⟩ = some (.int .i64 0) := cell_of_row _ _ _ _ _ _ hzz
               have z1 : w1.cell? ⟨wr.heap.size + 1, 1, none⟩ = some (.int .i64 0) := cell_of_row _ _ _ _ _ _ hzz
               have z2 : w1.cell? ⟨wr.heap.size + 1, 2, none⟩ = some (.int .i64 0) := cell_of_row _ _ _ _ _ _ hzz
               have z3 : w1.cell? ⟨wr.heap.size + 1, 3, none⟩ = some (.int .i64 0) := cell_of_row _ _ _ _ _ _ hzz
               have z4 : w1.cell? ⟨wr.heap.size + 1, 4, none⟩ = some (.int .u8 0) := cell_of_row _ _ _ _ _ _ hzz
               have z5 : w1.cell? ⟨wr.heap.size + 1, 5, none⟩ = some (.int .u8 0) := cell_of_row _ _ _ _ _ _ hzz
               have z6 : w1.cell? ⟨wr.heap.size + 1, 6, none⟩ = some (.int .u8 0) := cell_of_row _ _ _ _ _ _ hzz
               have z7 : w1.cell? ⟨wr.heap.size + 1, 7, none⟩ = some (.bool false) := cell_of_row _ _ _ _ _ _ hzz
               have z8 : w1.cell? ⟨wr.heap.size + 1, 8, none⟩ = some (.bool false) := cell_of_row _ _ _ _ _ _ hzz
               have z9 : w1.cell? ⟨wr.heap.size + 1, 9, none⟩ = some (.bool false) := cell_of_row _ _ _ _ _ _ hzz)))
        all_goals
          go_wp2_with fail
          go_meet
          first
          | (have hB2 := (hbA.trans (hb1.mono (by simp; try omega)))
             have hs1 := heap_set10 hzz (v0 := .int .i64 p.x) (v1 := .int .i64 p.y) (v2 := .int .i64 p.w) (v3 := .int .i64 p.h) (v4 := .int .u8 p.tile) (v5 := .int .u8 p.pal) (v6 := .int .u8 p.prio) (v7 := .bool p.sec) (v8 := .bool p.fx) (v9 := .bool p.fy)
             exact ⟨wr.heap.size + 1, rfl, hs1, ((below_set10 (Below.refl (wr.heap.size + 1) w1) (Nat.le_refl _)).block wr.heap.size (by omega)).trans hq1, by omega, below_set10 hB2 (by omega)⟩)
          | (have hB1 := (hbA.trans (hb1.mono (by simp; try omega)))
             exact ⟨w1.heap.size, rfl, heap_alloc_new w1 _, (Below.heap_alloc w1 _ _ m5).trans hq1, m5, hB1.alloc (by omega) _⟩)
      case rest =>
        obtain ⟨bp, rfl, hob, hsl, hbp, hbel⟩ := hcut
        have hHsl := Lib.hid hsl
        have hHob := Lib.hid hob
        have hbw : But bl w wc := hbut.trans (But.of_below (hbel.mono (Nat.le_refl _)))
        have HBW := Lib.hid hbw
        have ho2 := HO.out.below hbel l2
        have HO2 := Lib.hid ho2
        have hv2 := HVR.out.below hbel HVR.out.lt
        have hr2 := (hbel.cell (p := ⟨bs, so + 1, none⟩) (block_lt_of_cell HRR.out)).trans HRR.out
        have hbpl : bp < wc.heap.size := (Array.getElem?_eq_some_iff.1 hob).1
        have hbls : bl < bp := by omega
        have hbl2 : wr.heap.size < wc.heap.size := by omega
        have HV2 := Lib.hid hv2
        have HR2 := Lib.hid hr2
        clear hsl hob hbw ho2 hv2 hr2 c0 c1 c2 c3 c4 c5 c6 a1 a2 a3 a4 l1 hbut hso SP0 SP1
        obtain ⟨D, hD⟩ : ∃ D, D = paintL M d0 (S.take j) := ⟨_, rfl⟩
        have HD := Lib.hid hD
        clear hD
        go_wp2_with fail
        obtain ⟨wo, rfl⟩ : ∃ wo : World, wo = wr := ⟨_, rfl⟩
        go_loopw [34] (fun i wi => ∃ k : Nat, k ≤ 8 ∧ i = .int .i64 k ∧ ObjAt wi bl 66 1031 (progC fv (.slice (some ⟨q, 0, none⟩) K scap) ro late (paint1 M s D k) bv bs so y) ∧ But bl wc wi) (fun i _ => 8 - (intOf i).toNat)
        case atStart => exact ⟨0, by omega, rfl, by rw [HD.out]; exact HO2.out, But.refl _ _⟩
        case round =>
          obtain ⟨k, hk, rfl, hobk, hbk⟩ := hrel
          by_cases hk8 : k < 8
          · have t2 : decide ((k : Int) < 8) = true := decide_eq_true (by omega)
            have hob := (hbk.block bp hbpl (by omega)).trans hHob.out
            have hsl := (hbk.block wo.heap.size hbl2 (by omega)).trans hHsl.out
            have s0 : wr.cell? ⟨wo.heap.size, 1, none⟩ = some (.int .i64 s.x) := cell_of_row _ _ _ _ _ _ hsl
            have s1 : wr.cell? ⟨wo.heap.size, 2, none⟩ = some (.int .i64 s.col) := cell_of_row _ _ _ _ _ _ hsl
            have s2 : wr.cell? ⟨wo.heap.size, 3, none⟩ = some (.int .i64 s.row) := cell_of_row _ _ _ _ _ _ hsl
            have hpo := HPO.out
            have hw8 := hpo.w1
            have hpx0 := hpo.x0
            have hpx1 := hpo.x1
            have hx0 : -256 ≤ s.x := by have := HSXX.out; omega
            have hx1 : s.x ≤ 512 := by have := HSXX.out; omega
            have x1 := IntWalk.i64_in (s.x + (k : Int)) (by omega)
            clear hsl hpo
            have hun : (s.x + (k : Int) < 0 ∨ 256 ≤ s.x + (k : Int)) → paint1 M s D (k + 1) = paint1 M s D k := fun h => by
              show (if _ then _ else _) = _
              rw [if_neg (by omega)]
            have HUN := Lib.hid hun
            have HOBK := Lib.hid hobk
            clear hun hobk
            by_cases h1 : s.x + (k : Int) < 0
            · have b1 : decide (s.x + (k : Int) < 0) = true := decide_eq_true h1
              have HU := Lib.hid (HUN.out (Or.inl h1))
              clear h1 hob
              go_wp2_with fail
              go_roundw
              case rel => exact ⟨k + 1, by omega, by go_num, by rw [HU.out]; exact HOBK.out, hbk⟩
              case measure => simp [intOf]; omega
            · have b1 : decide (s.x + (k : Int) < 0) = false := decide_eq_false h1
              by_cases h2 : 256 ≤ s.x + (k : Int)
              · have b2 : decide (256 ≤ s.x + (k : Int)) = true := decide_eq_true h2
                have HU := Lib.hid (HUN.out (Or.inr h2))
                clear h1 h2 hob
                go_wp2_with fail
                go_roundw
                case rel => exact ⟨k + 1, by omega, by go_num, by rw [HU.out]; exact HOBK.out, hbk⟩
                case measure => simp [intOf]; omega
              · have b2 : decide (256 ≤ s.x + (k : Int)) = false := decide_eq_false h2
                obtain ⟨m0, m1, m2, m3, m4, m5, m6⟩ := prog_cells HOBK.out
                have p0 : wr.cell? ⟨bp, 0, none⟩ = some (.int .i64 p.x) := cell_of_row _ _ _ _ _ _ hob
                have p1 : wr.cell? ⟨bp, 1, none⟩ = some (.int .i64 p.y) := cell_of_row _ _ _ _ _ _ hob
                have p2 : wr.cell? ⟨bp, 2, none⟩ = some (.int .i64 p.w) := cell_of_row _ _ _ _ _ _ hob
                have p3 : wr.cell? ⟨bp, 3, none⟩ = some (.int .i64 p.h) := cell_of_row _ _ _ _ _ _ hob
                have p4 : wr.cell? ⟨bp, 4, none⟩ = some (.int .u8 p.tile) := cell_of_row _ _ _ _ _ _ hob
                have p5 : wr.cell? ⟨bp, 5, none⟩ = some (.int .u8 p.pal) := cell_of_row _ _ _ _ _ _ hob
                have p6 : wr.cell? ⟨bp, 6, none⟩ = some (.int .u8 p.prio) := cell_of_row _ _ _ _ _ _ hob
                have p7 : wr.cell? ⟨bp, 7, none⟩ = some (.bool p.sec) := cell_of_row _ _ _ _ _ _ hob
                have p8 : wr.cell? ⟨bp, 8, none⟩ = some (.bool p.fx) := cell_of_row _ _ _ _ _ _ hob
                have p9 : wr.cell? ⟨bp, 9, none⟩ = some (.bool p.fy) := cell_of_row _ _ _ _ _ _ hob
                have x2 := IntWalk.i64_in (8 * s.col) (by omega)
                have x3 := IntWalk.i64_in (8 * s.col + (k : Int)) (by omega)
                have hC : numOf M.vr M.r1 p (8 * s.col + (k : Int)) s.row = slNum M s.sp.toNat s (s.x + (k : Int)) := by
                  unfold slNum
                  rw [show M.sp s.sp.toNat = p from HSV.out, HSXX.out]
                  congr 1; omega
                have hCb : 0 ≤ slNum M s.sp.toNat s (s.x + (k : Int)) ∧ slNum M s.sp.toNat s (s.x + (k : Int)) ≤ 15 := numOf_bd M _ _ _
                have hpt : paint1 M s D (k + 1) = if 0 ≤ s.x + (k : Int) ∧ s.x + (k : Int) < 256 ∧ 0 < slNum M s.sp.toNat s (s.x + (k : Int)) then dput (paint1 M s D k) (s.x + (k : Int)).toNat (slDot M s.sp.toNat s (s.x + (k : Int))) else paint1 M s D k := rfl
                have HPT := Lib.hid hpt
                have HC := Lib.hid hC
                have hbel2 : Below wo.heap.size wo wc := hbel
                have hvk := HV2.out.but hbk nv
                have hrk := hbk.cell HR2.out ns
                have HVK := Lib.hid hvk
                have HRK := Lib.hid hrk
                have g0 : 0 ≤ 8 * s.col + (k : Int) := by omega
                have g1 : 8 * s.col + (k : Int) < p.w := by omega
                clear hob h1 h2 hpt hC hbel2 hvk hrk HUN
                go_wp2_with fail
                refine region_tail 16 (by kernel_rfl) (by kernel_rfl) ?_
                simp only [List.take_succ_cons, List.take_zero, List.drop_succ_cons, List.drop_zero]
                repeat still_step
                refine wpStill_nil ?_
                go_wp2_with fail
                have hbD : Below wr.heap.size wr wr.drew := (Below.refl _ wr).drew
                refine (number_in bv bs so p (8 * s.col + (k : Int)) s.row M.r1 M.vr M.oa M.cg HPO.out hrb.1 hrb.2 g0 g1 wr.drew (HVK.out.below hbD HVK.out.lt) ((hbD.cell (p := ⟨bs, so + 1, none⟩) (block_lt_of_cell HRK.out)).trans HRK.out) hr0 hr1).mono ?_
                rintro e w4 ⟨rfl, hb4⟩
                rw [HC.out]
                have hb5 : Below wr.heap.size wr w4 := hbD.trans hb4
                obtain ⟨C, hCe⟩ : ∃ C, C = slNum M s.sp.toNat s (s.x + (k : Int)) := ⟨_, rfl⟩
                rw [← hCe] at hCb ⊢
                have HCE := Lib.hid hCe
                have hpal := pal_bd M s.sp.toNat
                rw [show M.sp s.sp.toNat = p from HSV.out] at hpal
                have p54 : w4.cell? ⟨bp, 5, none⟩ = some (.int .u8 p.pal) := cell_later hb5 p5
                have p64 : w4.cell? ⟨bp, 6, none⟩ = some (.int .u8 p.prio) := cell_later hb5 p6
                have HO4 := Lib.hid (HOBK.out.below hb5 HOBK.out.lt)
                have HV4 := Lib.hid (HVK.out.below hb5 HVK.out.lt)
                have HB5 := Lib.hid hb5
                clear p0 p1 p2 p3 p4 p5 p6 p7 p8 p9 m0 m1 m2 m3 m4 m5 m6 s0 s1 s2 x2 x3 hCe hb4 hb5 hbD g0 g1 hrb
                have hX0 : 0 ≤ s.x + (k : Int) := by simpa using b1
                have hX1 : s.x + (k : Int) < 256 := by simpa using b2
                obtain ⟨X, hX⟩ : ∃ X : Nat, (X : Int) = s.x + (k : Int) := ⟨(s.x + (k : Int)).toNat, by omega⟩
                have hX2 : X < 256 := by omega
                have hXn : (s.x + (k : Int)).toNat = X := by omega
                have HX := Lib.hid hX
                by_cases h4 : 0 < C
                · have e4 : decide (0 < C) = true := decide_eq_true h4
                  obtain ⟨m0, m1, m2, m3, m4, m5, m6⟩ := prog_cells HO4.out
                  have q0 := HO4.out.cell (i := 4 + X * 4) (by omega)
                  have q1 := HO4.out.cell (i := 4 + X * 4 + 1) (by omega)
                  have q2 := HO4.out.cell (i := 4 + X * 4 + 2) (by omega)
                  have q3 := HO4.out.cell (i := 4 + X * 4 + 3) (by omega)
                  have hfz := HO4.out.frozen
                  have hcgc : w4.cell? ⟨bv, 33312 + (128 + p.pal * 16 + C).toNat, none⟩ = some (.int .u16 (M.cg (128 + p.pal * 16 + C).toNat)) := HV4.out.cg _ (by omega)
                  have HE := Lib.hid (show paint1 M s D (k + 1) = dput (paint1 M s D k) X (slDot M s.sp.toNat s (s.x + (k : Int))) by rw [HPT.out, if_pos ⟨hX0, hX1, by rw [← HCE.out]; exact h4⟩, hXn])
                  clear h4 hX
                  go_wp2_with fail
                  have hi0 : 0 ≤ 128 + p.pal * 16 + C := by omega
                  have hi1 : 128 + p.pal * 16 + C < 256 := by omega
                  have hD : slDot M s.sp.toNat s (s.x + (k : Int)) = ⟨true, p.prio, 128 + p.pal * 16 + C, M.cg (128 + p.pal * 16 + C).toNat⟩ := by
                    unfold slDot
                    rw [← HCE.out, show M.sp s.sp.toNat = p from HSV.out, Int.mul_comm 16]
                  have HDD := Lib.hid hD
                  clear hD
                  refine region_tail 19 (by kernel_rfl) (by kernel_rfl) ?_
                  simp only [List.take_succ_cons, List.take_zero, List.drop_succ_cons, List.drop_zero]
                  repeat still_step
                  refine wpStill_nil ?_
                  go_wp2_with fail
                  go_roundw
                  case rel =>
                    refine ⟨k + 1, by omega, by go_num, ?_, ?_⟩
                    · rw [HE.out, HDD.out]
                      have h := (((HO4.out.set (4 + X * 4) (.bool true)).set (4 + X * 4 + 1) (.int .u8 p.prio)).set (4 + X * 4 + 2) (.int .u8 (128 + p.pal * 16 + C))).set (4 + X * 4 + 3) (.int .u16 (M.cg (128 + p.pal * 16 + C).toNat))
                      have e := prog_upd_dot fv (.slice (some ⟨q, 0, none⟩) K scap) ro late (paint1 M s D k) X hX2 ⟨true, p.prio, 128 + p.pal * 16 + C, M.cg (128 + p.pal * 16 + C).toNat⟩ bv bs so y
                      simp only at e
                      rw [e] at h
                      exact h
                    · exact (((((hbk.grow HB5.out).setCell _ _).setCell _ _).setCell _ _).setCell _ _).drewN 1
                  case measure => simp [intOf]; omega
                · have e4 : decide (0 < C) = false := decide_eq_false h4
                  have HU := Lib.hid (show paint1 M s D (k + 1) = paint1 M s D k by rw [HPT.out, if_neg (by rw [← HCE.out]; omega)])
                  clear h4 hX
                  go_wp2_with fail
                  go_roundw
                  case rel => exact ⟨k + 1, by omega, by go_num, by rw [HU.out]; exact HO4.out, hbk.grow HB5.out⟩
                  case measure => simp [intOf]; omega
          · obtain rfl : k = 8 := by omega
            have t2 : decide (((8 : Nat) : Int) < 8) = false := rfl
            have HOBK := Lib.hid hobk
            clear hobk
            go_wp2_with fail
            go_roundw
            case rel =>
              refine ⟨j + 1, by omega, by go_num, ?_, HBW.out.trans hbk⟩
              rw [HTK.out, ← HD.out]; exact HOBK.out
            case measure => simp [intOf]; omega
    · obtain rfl : j = K := by omega
      have t1 : decide ((j : Int) < j) = false := decide_eq_false (by omega)
      have e : S.take j = S := by rw [HK.out, List.take_length]
      rw [e] at hobj
      have HO := Lib.hid hobj
      clear hobj e
      go_wp2_with fail
      go_end0
      exact ⟨rfl, HO.out, hbut⟩
end Go.Proofs.Ytoaecfaackkicaa
