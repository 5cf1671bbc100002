/- The walk of SpriteLines. -/
import Derived.Test.YtoaecfaackkicaaSame
namespace Go.Proofs.Ytoaecfaackkicaa
open Go Go.RowKit

set_option maxRecDepth 100000 in
set_option maxHeartbeats 4000000 in
theorem f3_any (M : Mem) (ws os cs : List Int) (sc : Nat → Value) (H : Ins M ws os cs sc) (wv ov cv : Value) (f y : Int) (w : World) (hw : SlIn w .u16 wv ws) (ho : SlIn w .u8 ov os) (hc0 : SlIn w .u16 cv cs) :
    Calls Try.prog 3 #[.agg #[wv, ov, cv], .agg (blk 81 sc), .int .i64 f, .int .i64 y] w fun e w' => e = .returned (.bool true) ∧ Below w.heap.size w w' := by
  have hB : Below w.heap.size w w := Below.refl _ _
  obtain ⟨VA, hVA⟩ : ∃ VA, VA = blk 33568 (vidC M.vr M.oa M.cg) := ⟨_, rfl⟩
  have hSE : SelfEq Try.prog 3 49 (.agg VA) := by rw [hVA]; exact selfEq_vid _ _ _
  refine v_enter Try.func3 rfl 69 rfl (by kernel_rfl) fun a K => ?_
  have K := K.cut [0, 1, 2, 3] (L' := [(0, .agg #[wv, ov, cv]), (1, .agg (blk 81 sc)), (2, .int .i64 f), (3, .int .i64 y)]) (by kernel_rfl)
  show Code.wp _ _ _ _ _
  refine wp_seq ?_
  -- region 0
  refine wp_region_lit ?_
  refine l_box 4 3 (arrC #[wv, ov, cv]) K (by kernel_rfl) rfl (show envL _ _ = .agg #[wv, ov, cv] from rfl) (arr_blk rfl) ?_
  intro b4 w_1 hbn hb o4 a K
  have hz_1 := hb.size
  replace hB := hB.trans (hb.mono hB.size)
  have lt_b4 := o4.lt
  have lz_b4 := o4.lt
  refine l_box 5 81 sc K (by kernel_rfl) rfl (show envL _ _ = .agg (blk 81 sc) from rfl) (cells_agg _) ?_
  intro bs w_2 hbn hb os_ a K
  have hz_2 := hb.size
  replace hB := hB.trans (hb.mono hB.size)
  replace o4 := o4.below hb o4.lt
  replace lt_b4 := Nat.lt_of_lt_of_le lt_b4 hb.size
  have lt_bs := os_.lt
  have lz_bs := os_.lt
  refine l_run 1 [0, 1, 2, 3, 4, 5, 8] [(0, .agg #[wv, ov, cv]), (1, .agg (blk 81 sc)), (2, .int .i64 f), (3, .int .i64 y), (4, .pointer (some ⟨b4, 0, none⟩)), (5, .pointer (some ⟨bs, 0, none⟩)), (8, .bool false)] K (by kernel_rfl) fun a K => ?_
  refine wpList_nil ?_
  refine then_normal ?_
  refine wp_seq ?_
  -- region 1
  refine wp_region_lit ?_
  refine l_val 13 (.agg #[wv, ov, cv]) K (by kernel_rfl) (ex_load_arr (cs := #[wv, ov, cv]) (m := 3) _ rfl rfl o4 (by omega) (by kernel_rfl) Try.underlying25 rfl rfl (fun i hi => by match i, hi with | 0, _ => rfl | 1, _ => rfl | 2, _ => rfl)) fun a K => ?_
  refine l_call 14 K (by kernel_rfl) (ex_pure (by kernel_rfl) _) (H.video (hw.below hB) (ho.below hB) (hc0.below hB)) ?_
  rintro e w_3 ⟨bv, rfl, hbv, obv, hb⟩
  have hz_3 := hb.size
  replace hB := hB.trans (hb.mono hB.size)
  replace o4 := o4.below hb o4.lt
  replace lt_b4 := Nat.lt_of_lt_of_le lt_b4 hb.size
  replace os_ := os_.below hb os_.lt
  replace lt_bs := Nat.lt_of_lt_of_le lt_bs hb.size
  refine ⟨_, rfl, fun a K => ?_⟩
  have lt_bv := obv.lt
  have lz_bv := obv.lt
  refine l_run 1 [0, 1, 2, 3, 4, 5, 8, 9] [(0, .agg #[wv, ov, cv]), (1, .agg (blk 81 sc)), (2, .int .i64 f), (3, .int .i64 y), (4, .pointer (some ⟨b4, 0, none⟩)), (5, .pointer (some ⟨bs, 0, none⟩)), (8, .bool false), (9, .pointer (some ⟨bv, 0, none⟩))] K (by kernel_rfl) fun a K => ?_
  refine wpList_nil ?_
  refine then_normal ?_
  refine wp_seq ?_
  -- region 2
  refine wp_region_lit ?_
  refine l_val 15 (.agg (blk 81 sc)) K (by kernel_rfl) (exec_load_whole _ rfl rfl os_ (by kernel_rfl) Try.underlying32 rfl) fun a K => ?_
  refine l_alloc 10 81 zscr K (by kernel_rfl) rfl (Try.zeroScr _) rfl ?_
  intro b10 w_4 hbn hb o10 a K
  have hz_4 := hb.size
  replace hB := hB.trans (hb.mono hB.size)
  replace o4 := o4.below hb o4.lt
  replace lt_b4 := Nat.lt_of_lt_of_le lt_b4 hb.size
  replace os_ := os_.below hb os_.lt
  replace lt_bs := Nat.lt_of_lt_of_le lt_bs hb.size
  replace obv := obv.below hb obv.lt
  replace lt_bv := Nat.lt_of_lt_of_le lt_bv hb.size
  have lt_b10 := o10.lt
  have lz_b10 := o10.lt
  refine l_store_full K (by kernel_rfl) rfl rfl (show envL _ _ = .agg (blk 81 sc) from rfl) (by kernel_rfl) H.cells o10 ?_
  intro w_5 hc o10
  have hz_5 := hc.size
  replace hB := below_chg hB hc (by omega)
  replace o4 := hc.obj (by omega) o4
  replace lt_b4 := Nat.lt_of_lt_of_eq lt_b4 hc.size.symm
  replace os_ := hc.obj (by omega) os_
  replace lt_bs := Nat.lt_of_lt_of_eq lt_bs hc.size.symm
  replace obv := hc.obj (by omega) obv
  replace lt_bv := Nat.lt_of_lt_of_eq lt_bv hc.size.symm
  replace lt_b10 := Nat.lt_of_lt_of_eq lt_b10 hc.size.symm
  have K := K.cut [0, 1, 2, 3, 4, 5, 8, 9, 10] (L' := [(0, .agg #[wv, ov, cv]), (1, .agg (blk 81 sc)), (2, .int .i64 f), (3, .int .i64 y), (4, .pointer (some ⟨b4, 0, none⟩)), (5, .pointer (some ⟨bs, 0, none⟩)), (8, .bool false), (9, .pointer (some ⟨bv, 0, none⟩)), (10, .pointer (some ⟨b10, 0, none⟩))]) (by kernel_rfl)
  refine wpList_nil ?_
  refine then_normal ?_
  refine wp_seq ?_
  -- region 3
  refine wp_region_lit ?_
  refine l_run 3 [0, 1, 2, 3, 4, 5, 8, 9, 10, 16, 17, 18] [(0, .agg #[wv, ov, cv]), (1, .agg (blk 81 sc)), (2, .int .i64 f), (3, .int .i64 y), (4, .pointer (some ⟨b4, 0, none⟩)), (5, .pointer (some ⟨bs, 0, none⟩)), (8, .bool false), (9, .pointer (some ⟨bv, 0, none⟩)), (10, .pointer (some ⟨b10, 0, none⟩)), (16, .pointer (some ⟨bv, 0, none⟩)), (17, .int .i64 f), (18, .int .i64 y)] K (by kernel_rfl) fun a K => ?_
  obtain ⟨wA, hwA⟩ : ∃ wA, wA = w_5.heap.size := ⟨_, rfl⟩
  have kA : w.heap.size ≤ wA := by rw [hwA]; exact hB.size
  have k_b4 : b4 < wA := by omega
  have k_bs : bs < wA := by omega
  have k_bv : bv < wA := by omega
  have k_b10 : b10 < wA := by omega
  refine l_call 19 K (by kernel_rfl) (ex_pure (by kernel_rfl) _) (H.pl f y obv os_) ?_
  rintro e w_6 ⟨fv, sv, rfl, hfo, hso, hb⟩
  rw [← hwA] at hfo hso
  have hrow := World.ownsRow.lt hfo
  have hrow2 := World.ownsRow.lt hso
  have fv1 := ownI_one hfo
  have sv1 := ownS_one hso
  have hap := own_apart hfo hso
  have hz_6 := hb.size
  replace hB := hB.trans (hb.mono hB.size)
  replace o4 := o4.below hb o4.lt
  replace lt_b4 := Nat.lt_of_lt_of_le lt_b4 hb.size
  replace os_ := os_.below hb os_.lt
  replace lt_bs := Nat.lt_of_lt_of_le lt_bs hb.size
  replace obv := obv.below hb obv.lt
  replace lt_bv := Nat.lt_of_lt_of_le lt_bv hb.size
  replace o10 := o10.below hb o10.lt
  replace lt_b10 := Nat.lt_of_lt_of_le lt_b10 hb.size
  refine ⟨_, rfl, fun a K => ?_⟩
  obtain ⟨wZ, hwZ⟩ : ∃ wZ, wZ = w_6.heap.size := ⟨_, rfl⟩
  obtain ⟨sa, scap, hsv, hsn, hsm, -⟩ := hso.form
  unfold maxLen at hsm
  obtain ⟨N, hN⟩ : ∃ N, N = (LS M f y).length := ⟨_, rfl⟩
  rw [← hN] at hsv hsn
  have hsl : SlRow wA w_6.heap.size N sa w_6 := SlRow.of (by rw [← hsv]; exact hso) hN
  rw [← hwZ] at hsl
  have hrow' : ∀ g, fv.ownBlock = some g → wA ≤ g ∧ g < wZ := fun g e => by have := hrow g e; omega
  clear hrow
  have hrow := hrow'
  refine l_alloc 11 1028 zline K (by kernel_rfl) rfl (Try.zeroLine _) rfl ?_
  intro b11 w_7 hbn hb o11 a K
  have hz_7 := hb.size
  replace hB := hB.trans (hb.mono hB.size)
  replace o4 := o4.below hb o4.lt
  replace lt_b4 := Nat.lt_of_lt_of_le lt_b4 hb.size
  replace os_ := os_.below hb os_.lt
  replace lt_bs := Nat.lt_of_lt_of_le lt_bs hb.size
  replace obv := obv.below hb obv.lt
  replace lt_bv := Nat.lt_of_lt_of_le lt_bv hb.size
  replace o10 := o10.below hb o10.lt
  replace lt_b10 := Nat.lt_of_lt_of_le lt_b10 hb.size
  replace hfo := hfo.full hb
  replace hso := hso.full hb
  replace hsl := hsl.below hb
  have lt_b11 := o11.lt
  have lz_b11 := o11.lt
  have k_b11 : wZ ≤ b11 := by omega
  have n_fo : fv.ownBlock ≠ some b11 := fun e => by have := (hrow b11 e).2; omega
  have n_so : sv.ownBlock ≠ some b11 := fun e => by have := (hrow2 b11 e).2; omega
  refine l_store_full K (by kernel_rfl) rfl rfl (show envL _ _ = .agg (blk 1028 (lineC fv sv (LR M f y) (LL M f y) (LP M f y))) from rfl) (by kernel_rfl) (lineC_line _ _ _ _ _ fv1 sv1) o11 ?_
  intro w_8 hc o11
  have hz_8 := hc.size
  replace hB := below_chg hB hc (by omega)
  replace o4 := hc.obj (by omega) o4
  replace lt_b4 := Nat.lt_of_lt_of_eq lt_b4 hc.size.symm
  replace os_ := hc.obj (by omega) os_
  replace lt_bs := Nat.lt_of_lt_of_eq lt_bs hc.size.symm
  replace obv := hc.obj (by omega) obv
  replace lt_bv := Nat.lt_of_lt_of_eq lt_bv hc.size.symm
  replace o10 := hc.obj (by omega) o10
  replace lt_b10 := Nat.lt_of_lt_of_eq lt_b10 hc.size.symm
  replace hfo := hfo.chg hc n_fo
  replace hso := hso.chg hc n_so
  replace hsl := hsl.chg hc (by omega)
  replace lt_b11 := Nat.lt_of_lt_of_eq lt_b11 hc.size.symm
  have K := K.cut [0, 1, 2, 3, 4, 5, 8, 9, 10, 11] (L' := [(0, .agg #[wv, ov, cv]), (1, .agg (blk 81 sc)), (2, .int .i64 f), (3, .int .i64 y), (4, .pointer (some ⟨b4, 0, none⟩)), (5, .pointer (some ⟨bs, 0, none⟩)), (8, .bool false), (9, .pointer (some ⟨bv, 0, none⟩)), (10, .pointer (some ⟨b10, 0, none⟩)), (11, .pointer (some ⟨b11, 0, none⟩))]) (by kernel_rfl)
  refine wpList_nil ?_
  refine then_normal ?_
  refine wp_seq ?_
  refine wp_seq ?_
  -- region 4
  refine d_region 22 (fun w' => Below w_8.drew.heap.size w_8.drew w') (by kernel_rfl) ?_
  have hb : Below w_8.heap.size w_8 w_8.drew := (Below.refl _ _).drew
  have hz_9 := hb.size
  replace hB := hB.trans (hb.mono hB.size)
  replace o4 := o4.below hb o4.lt
  replace lt_b4 := Nat.lt_of_lt_of_le lt_b4 hb.size
  replace os_ := os_.below hb os_.lt
  replace lt_bs := Nat.lt_of_lt_of_le lt_bs hb.size
  replace obv := obv.below hb obv.lt
  replace lt_bv := Nat.lt_of_lt_of_le lt_bv hb.size
  replace o10 := o10.below hb o10.lt
  replace lt_b10 := Nat.lt_of_lt_of_le lt_b10 hb.size
  replace hfo := hfo.full hb
  replace hso := hso.full hb
  replace hsl := hsl.below hb
  replace o11 := o11.below hb o11.lt
  replace lt_b11 := Nat.lt_of_lt_of_le lt_b11 hb.size
  have xo4 := o4
  have xos_ := os_
  have xobv := obv
  have xo10 := o10
  have xo11 := o11
  have hS : Below w_8.drew.heap.size w_8.drew w_8.drew := Below.refl _ _
  refine d_run (fuel := 19) [1, 2, 3] [0, 1, 2, 3, 4, 5, 8, 9, 10, 11, 21, 22, 23] #[false, true, true, true, false, false, false, false, false, false, false, false, false, false, false, false, false, false, false, false, false, false] [(0, .agg #[wv, ov, cv]), (1, .agg (blk 81 sc)), (2, .int .i64 f), (3, .int .i64 y), (4, .pointer (some ⟨b4, 0, none⟩)), (5, .pointer (some ⟨bs, 0, none⟩)), (8, .bool false), (9, .pointer (some ⟨bv, 0, none⟩)), (10, .pointer (some ⟨b10, 0, none⟩)), (11, .pointer (some ⟨b11, 0, none⟩)), (21, .pointer (some ⟨bv, 0, none⟩)), (22, .int .i64 f), (23, .int .i64 y)] K (fun _ _ _ _ _ h => h) (by kernel_rfl) (by kernel_rfl) hS fun a K => ?_
  refine d_val 0 20 (.agg (blk 1028 (lineC fv sv (LR M f y) (LL M f y) (LP M f y)))) K (fun _ _ _ _ _ h => h) rfl (by kernel_rfl) (by kernel_rfl) (by kernel_rfl) (fun w' hS' => (exec_load_whole _ rfl rfl (xo11.below hS' xo11.lt) (by kernel_rfl) Try.underlying41 rfl)) hS fun a K => ?_
  refine d_one 4 (by kernel_rfl) ?_
  refine c_call 24 K rfl (by kernel_rfl) (ex_pure (by kernel_rfl) _) (H.rl f y obv os_) ?_
  rintro e w_9 ⟨fv2, sv2, rfl, hfo2, hso2, hb⟩
  have hz_10 := hb.size
  replace hB := hB.trans (hb.mono hB.size)
  replace o4 := o4.below hb o4.lt
  replace lt_b4 := Nat.lt_of_lt_of_le lt_b4 hb.size
  replace os_ := os_.below hb os_.lt
  replace lt_bs := Nat.lt_of_lt_of_le lt_bs hb.size
  replace obv := obv.below hb obv.lt
  replace lt_bv := Nat.lt_of_lt_of_le lt_bv hb.size
  replace o10 := o10.below hb o10.lt
  replace lt_b10 := Nat.lt_of_lt_of_le lt_b10 hb.size
  replace hfo := hfo.full hb
  replace hso := hso.full hb
  replace hsl := hsl.below hb
  replace o11 := o11.below hb o11.lt
  replace lt_b11 := Nat.lt_of_lt_of_le lt_b11 hb.size
  replace hS := hS.trans (hb.mono hS.size)
  refine ⟨_, rfl, Or.inr hS, fun a K => ?_⟩
  refine d_one 5 (by kernel_rfl) ?_
  refine c_call 25 K rfl (by kernel_rfl) (ex_pure (by kernel_rfl) _) (lines_any _ _ _ _ fv fv2 sv sv2 (LF M f y) (LS M f y) (LR M f y) (LL M f y) (LP M f y) (LD M f y) _ hfo hfo2 hso hso2 (LP_eq M f y)) ?_
  rintro e w_10 ⟨rfl, hb⟩
  have hz_11 := hb.size
  replace hB := hB.trans (hb.mono hB.size)
  replace o4 := o4.below hb o4.lt
  replace lt_b4 := Nat.lt_of_lt_of_le lt_b4 hb.size
  replace os_ := os_.below hb os_.lt
  replace lt_bs := Nat.lt_of_lt_of_le lt_bs hb.size
  replace obv := obv.below hb obv.lt
  replace lt_bv := Nat.lt_of_lt_of_le lt_bv hb.size
  replace o10 := o10.below hb o10.lt
  replace lt_b10 := Nat.lt_of_lt_of_le lt_b10 hb.size
  replace hfo := hfo.full hb
  replace hso := hso.full hb
  replace hsl := hsl.below hb
  replace o11 := o11.below hb o11.lt
  replace lt_b11 := Nat.lt_of_lt_of_le lt_b11 hb.size
  replace hS := hS.trans (hb.mono hS.size)
  replace hfo2 := hfo2.full hb
  replace hso2 := hso2.full hb
  refine ⟨_, rfl, Or.inr hS, fun a K => ?_⟩
  refine d_run (fuel := 14) [6, 7] [0, 1, 2, 3, 4, 5, 8, 9, 10, 11, 27] #[true, true, true, true, true, true, true, true, false, false, false, false, false, false, false, false, false, false, false, false, false, false] [(0, .agg #[wv, ov, cv]), (1, .agg (blk 81 sc)), (2, .int .i64 f), (3, .int .i64 y), (4, .pointer (some ⟨b4, 0, none⟩)), (5, .pointer (some ⟨bs, 0, none⟩)), (8, .bool false), (9, .pointer (some ⟨bv, 0, none⟩)), (10, .pointer (some ⟨b10, 0, none⟩)), (11, .pointer (some ⟨b11, 0, none⟩)), (27, .bool false)] K (fun _ _ _ _ _ h => h) (by kernel_rfl) (by kernel_rfl) hS fun a K => ?_
  refine d_val 8 28 (.agg (blk 81 sc)) K (fun _ _ _ _ _ h => h) rfl (by kernel_rfl) (by kernel_rfl) (by kernel_rfl) (fun w' hS' => (exec_load_whole _ rfl rfl (xos_.below hS' xos_.lt) (by kernel_rfl) Try.underlying32 rfl)) hS fun a K => ?_
  refine d_val 9 29 (.agg (blk 81 sc)) K (fun _ _ _ _ _ h => h) rfl (by kernel_rfl) (by kernel_rfl) (by kernel_rfl) (fun w' hS' => (exec_load_whole _ rfl rfl (xo10.below hS' xo10.lt) (by kernel_rfl) Try.underlying32 rfl)) hS fun a K => ?_
  refine d_val 10 30 (.bool false) K (fun _ _ _ _ _ h => h) rfl (by kernel_rfl) (by kernel_rfl) (by kernel_rfl) (fun w' hS' => (exec_neq_self H.same (by omega) (by kernel_rfl) _ _ rfl rfl rfl _)) hS fun a K => ?_
  refine d_run (fuel := 7) [11, 12, 13, 14] [0, 1, 2, 3, 4, 5, 8, 9, 10, 11, 32, 34] #[true, true, true, true, true, true, true, true, true, true, true, true, true, true, true, false, false, false, false, false, false, false] [(0, .agg #[wv, ov, cv]), (1, .agg (blk 81 sc)), (2, .int .i64 f), (3, .int .i64 y), (4, .pointer (some ⟨b4, 0, none⟩)), (5, .pointer (some ⟨bs, 0, none⟩)), (8, .bool false), (9, .pointer (some ⟨bv, 0, none⟩)), (10, .pointer (some ⟨b10, 0, none⟩)), (11, .pointer (some ⟨b11, 0, none⟩)), (32, .bool false), (34, .pointer (some ⟨bv, 0, none⟩))] K (fun _ _ _ _ _ h => h) (by kernel_rfl) (by kernel_rfl) hS fun a K => ?_
  refine d_val 15 35 (.agg VA) K (fun _ _ _ _ _ h => h) rfl (by kernel_rfl) (by kernel_rfl) (by kernel_rfl) (fun w' hS' => (by rw [hVA]; exact exec_load_whole _ rfl rfl (xobv.below hS' xobv.lt) (by kernel_rfl) Try.underlying49 rfl)) hS fun a K => ?_
  refine d_val 16 36 (.agg #[wv, ov, cv]) K (fun _ _ _ _ _ h => h) rfl (by kernel_rfl) (by kernel_rfl) (by kernel_rfl) (fun w' hS' => (ex_load_arr (cs := #[wv, ov, cv]) (m := 3) _ rfl rfl (xo4.below hS' xo4.lt) (by omega) (by kernel_rfl) Try.underlying25 rfl rfl (fun i hi => by match i, hi with | 0, _ => rfl | 1, _ => rfl | 2, _ => rfl))) hS fun a K => ?_
  refine d_one 17 (by kernel_rfl) ?_
  refine c_call 37 K rfl (by kernel_rfl) (ex_pure (by kernel_rfl) _) (H.video (hw.below hB) (ho.below hB) (hc0.below hB)) ?_
  rintro e w_11 ⟨bv2, rfl, hbv2, obv2, hb⟩
  have hz_12 := hb.size
  replace hB := hB.trans (hb.mono hB.size)
  replace o4 := o4.below hb o4.lt
  replace lt_b4 := Nat.lt_of_lt_of_le lt_b4 hb.size
  replace os_ := os_.below hb os_.lt
  replace lt_bs := Nat.lt_of_lt_of_le lt_bs hb.size
  replace obv := obv.below hb obv.lt
  replace lt_bv := Nat.lt_of_lt_of_le lt_bv hb.size
  replace o10 := o10.below hb o10.lt
  replace lt_b10 := Nat.lt_of_lt_of_le lt_b10 hb.size
  replace hfo := hfo.full hb
  replace hso := hso.full hb
  replace hsl := hsl.below hb
  replace o11 := o11.below hb o11.lt
  replace lt_b11 := Nat.lt_of_lt_of_le lt_b11 hb.size
  replace hS := hS.trans (hb.mono hS.size)
  replace hfo2 := hfo2.full hb
  replace hso2 := hso2.full hb
  refine ⟨_, rfl, Or.inr hS, fun a K => ?_⟩
  refine d_run (fuel := 3) [18] [0, 1, 2, 3, 4, 5, 8, 9, 10, 11, 32, 35, 38] #[true, true, true, true, true, true, true, true, true, true, true, true, true, true, true, true, true, true, true, false, false, false] [(0, .agg #[wv, ov, cv]), (1, .agg (blk 81 sc)), (2, .int .i64 f), (3, .int .i64 y), (4, .pointer (some ⟨b4, 0, none⟩)), (5, .pointer (some ⟨bs, 0, none⟩)), (8, .bool false), (9, .pointer (some ⟨bv, 0, none⟩)), (10, .pointer (some ⟨b10, 0, none⟩)), (11, .pointer (some ⟨b11, 0, none⟩)), (32, .bool false), (35, .agg VA), (38, .pointer (some ⟨bv2, 0, none⟩))] K (fun _ _ _ _ _ h => h) (by kernel_rfl) (by kernel_rfl) hS fun a K => ?_
  refine d_one 19 (by kernel_rfl) ?_
  refine c_val 39 (.agg VA) K rfl (by kernel_rfl) (by rw [hVA]; exact exec_load_whole _ rfl rfl obv2 (by kernel_rfl) Try.underlying49 rfl) (Or.inr hS) fun a K => ?_
  refine d_val 20 40 (.bool false) K (fun _ _ _ _ _ h => h) rfl (by kernel_rfl) (by kernel_rfl) (by kernel_rfl) (fun w' hS' => (exec_neq_self hSE (by omega) (by kernel_rfl) _ _ rfl rfl rfl _)) hS fun a K => ?_
  refine d_run (fuel := 0) [21] [0, 1, 2, 3, 4, 5, 8, 9, 10, 11, 41] #[true, true, true, true, true, true, true, true, true, true, true, true, true, true, true, true, true, true, true, true, true, true] [(0, .agg #[wv, ov, cv]), (1, .agg (blk 81 sc)), (2, .int .i64 f), (3, .int .i64 y), (4, .pointer (some ⟨b4, 0, none⟩)), (5, .pointer (some ⟨bs, 0, none⟩)), (8, .bool false), (9, .pointer (some ⟨bv, 0, none⟩)), (10, .pointer (some ⟨b10, 0, none⟩)), (11, .pointer (some ⟨b11, 0, none⟩)), (41, .bool false)] K (fun _ _ _ _ _ h => h) (by kernel_rfl) (by kernel_rfl) hS fun a K => ?_
  have K := K.cut [0, 1, 2, 3, 4, 5, 8, 9, 10, 11, 41] (L' := [(0, .agg #[wv, ov, cv]), (1, .agg (blk 81 sc)), (2, .int .i64 f), (3, .int .i64 y), (4, .pointer (some ⟨b4, 0, none⟩)), (5, .pointer (some ⟨bs, 0, none⟩)), (8, .bool false), (9, .pointer (some ⟨bv, 0, none⟩)), (10, .pointer (some ⟨b10, 0, none⟩)), (11, .pointer (some ⟨b11, 0, none⟩)), (41, .bool false)]) (by kernel_rfl)
  refine d_done (by kernel_rfl) ?_
  refine then_normal ?_
  refine v_false K rfl rfl ?_
  refine wp_skip ?_
  refine then_normal ?_
  refine wp_seq ?_
  -- region 6
  refine wp_region_lit ?_
  refine l_run 1 [0, 1, 2, 3, 4, 5, 8, 9, 10, 11, 41, 42] [(0, .agg #[wv, ov, cv]), (1, .agg (blk 81 sc)), (2, .int .i64 f), (3, .int .i64 y), (4, .pointer (some ⟨b4, 0, none⟩)), (5, .pointer (some ⟨bs, 0, none⟩)), (8, .bool false), (9, .pointer (some ⟨bv, 0, none⟩)), (10, .pointer (some ⟨b10, 0, none⟩)), (11, .pointer (some ⟨b11, 0, none⟩)), (41, .bool false), (42, .pointer (some ⟨b11, 0, none⟩))] K (by kernel_rfl) fun a K => ?_
  refine l_val 43 (fv) K (by kernel_rfl) (ex_load rfl rfl Try.underlying35 rfl (o11.cell (i := 0) (by omega))) fun a K => ?_
  have n_bv : some bv ≠ fv.ownBlock := fun e => by have := hrow bv e.symm; omega
  have n_bs : some bs ≠ fv.ownBlock := fun e => by have := hrow bs e.symm; omega
  have n_b11 : some b11 ≠ fv.ownBlock := fun e => by have := (hrow b11 e.symm).2; omega
  have hrg : ∀ k, fv.ownBlock = some k → w.heap.size ≤ k := fun k e => by have := (hrow k e).1; omega
  refine l_call 44 K (by kernel_rfl) (ex_pure (by kernel_rfl) _) (spoil_any _ fv _ _ hfo) ?_
  rintro e w_12 ⟨rfl, hg⟩
  replace hsl := hsl.grown hg fun g e e' => hap g e'.symm (by rw [hsv, e]; rfl)
  have hz_13 := hg.size
  replace hB := hB.grown hg hB.size hrg
  replace os_ := (hg.block _ os_.lt (by assumption)).trans os_
  replace obv := (hg.block _ obv.lt (by assumption)).trans obv
  replace o11 := (hg.block _ o11.lt (by assumption)).trans o11
  refine ⟨_, rfl, fun a K => ?_⟩
  have K := K.cut [0, 1, 2, 3, 4, 5, 8, 9, 10, 11, 41] (L' := [(0, .agg #[wv, ov, cv]), (1, .agg (blk 81 sc)), (2, .int .i64 f), (3, .int .i64 y), (4, .pointer (some ⟨b4, 0, none⟩)), (5, .pointer (some ⟨bs, 0, none⟩)), (8, .bool false), (9, .pointer (some ⟨bv, 0, none⟩)), (10, .pointer (some ⟨b10, 0, none⟩)), (11, .pointer (some ⟨b11, 0, none⟩)), (41, .bool false)]) (by kernel_rfl)
  refine wpList_nil ?_
  refine then_normal ?_
  refine wp_seq ?_
  refine wp_seq ?_
  -- region 7
  refine wp_region_lit ?_
  refine l_run 1 [0, 1, 2, 3, 4, 5, 8, 9, 10, 11, 41, 12] [(0, .agg #[wv, ov, cv]), (1, .agg (blk 81 sc)), (2, .int .i64 f), (3, .int .i64 y), (4, .pointer (some ⟨b4, 0, none⟩)), (5, .pointer (some ⟨bs, 0, none⟩)), (8, .bool false), (9, .pointer (some ⟨bv, 0, none⟩)), (10, .pointer (some ⟨b10, 0, none⟩)), (11, .pointer (some ⟨b11, 0, none⟩)), (41, .bool false), (12, .int .i64 0)] K (by kernel_rfl) fun a K => ?_
  refine wpList_nil ?_
  refine then_normal ?_
  refine wp_block ?_
  have K := K.cut [2, 3, 5, 9, 11, 12] (L' := [(2, .int .i64 f), (3, .int .i64 y), (5, .pointer (some ⟨bs, 0, none⟩)), (9, .pointer (some ⟨bv, 0, none⟩)), (11, .pointer (some ⟨b11, 0, none⟩)), (12, .int .i64 0)]) (by kernel_rfl)
  refine v_for (fun k a W' => Knows 69 [(2, .int .i64 f), (3, .int .i64 y), (5, .pointer (some ⟨bs, 0, none⟩)), (9, .pointer (some ⟨bv, 0, none⟩)), (11, .pointer (some ⟨b11, 0, none⟩)), (12, .int .i64 (k : Int))] a ∧ ObjAt W' bv 49 33568 (vidC M.vr M.oa M.cg) ∧ ObjAt W' bs 32 81 sc ∧ ObjAt W' b11 41 1028 (lineC fv sv (LR M f y) (LL M f y) (LP M f y)) ∧ Below w.heap.size w W' ∧ SlRow wA wZ N sa W') N 0 (by omega) ⟨K, obv, os_, o11, hB, hsl⟩ ?_
  intro k a w_13 hkk ⟨K, obv, os_, o11, hB, hsl⟩
  have lz_bv := obv.lt
  have lz_bs := os_.lt
  have lz_b11 := o11.lt
  by_cases hltk : k < N
  · rcases hsl with hs0 | ⟨g, m, c, hsa, hgA, hgZ, og, hgm⟩
    · exact absurd hltk (by omega)
    refine wp_seq ?_
    refine wp_seq ?_
    -- region 8
    refine wp_region_lit ?_
    refine l_run 2 [2, 3, 5, 9, 11, 12, 45, 46] [(2, .int .i64 f), (3, .int .i64 y), (5, .pointer (some ⟨bs, 0, none⟩)), (9, .pointer (some ⟨bv, 0, none⟩)), (11, .pointer (some ⟨b11, 0, none⟩)), (12, .int .i64 (k : Int)), (45, .int .i64 (k : Int)), (46, .pointer (some ⟨b11, 1, none⟩))] K (by kernel_rfl) fun a K => ?_
    refine l_val 47 (.slice (some ⟨g, 0, none⟩) N scap) K (by kernel_rfl) (ex_load rfl rfl Try.underlying36 rfl (by rw [← hsa, ← hsv]; exact o11.cell (i := 1) (by omega))) fun a K => ?_
    refine l_run 1 [2, 3, 5, 9, 11, 12, 45, 48] [(2, .int .i64 f), (3, .int .i64 y), (5, .pointer (some ⟨bs, 0, none⟩)), (9, .pointer (some ⟨bv, 0, none⟩)), (11, .pointer (some ⟨b11, 0, none⟩)), (12, .int .i64 (k : Int)), (45, .int .i64 (k : Int)), (48, .int .i64 (N : Int))] K (by kernel_rfl) fun a K => ?_
    refine l_val 49 (.bool true) K (by kernel_rfl) (ex_as (v := .bool (decide ((k : Int) < (N : Int)))) (by kernel_rfl) (congrArg _ (decide_eq_true (by omega)))) fun a K => ?_
    have K := K.cut [2, 3, 5, 9, 11, 12, 49] (L' := [(2, .int .i64 f), (3, .int .i64 y), (5, .pointer (some ⟨bs, 0, none⟩)), (9, .pointer (some ⟨bv, 0, none⟩)), (11, .pointer (some ⟨b11, 0, none⟩)), (12, .int .i64 (k : Int)), (49, .bool true)]) (by kernel_rfl)
    refine wpList_nil ?_
    refine then_normal ?_
    refine v_true K rfl rfl ?_
    refine wp_skip ?_
    refine then_normal ?_
    refine wp_seq ?_
    refine wp_block ?_
    -- region 10
    refine wp_region_lit ?_
    refine l_run 1 [2, 3, 5, 9, 11, 12, 49, 52] [(2, .int .i64 f), (3, .int .i64 y), (5, .pointer (some ⟨bs, 0, none⟩)), (9, .pointer (some ⟨bv, 0, none⟩)), (11, .pointer (some ⟨b11, 0, none⟩)), (12, .int .i64 (k : Int)), (49, .bool true), (52, .pointer (some ⟨b11, 1, none⟩))] K (by kernel_rfl) fun a K => ?_
    refine l_val 53 (.slice (some ⟨g, 0, none⟩) N scap) K (by kernel_rfl) (ex_load rfl rfl Try.underlying36 rfl (by rw [← hsa, ← hsv]; exact o11.cell (i := 1) (by omega))) fun a K => ?_
    refine l_run 1 [2, 3, 5, 9, 11, 12, 49, 53, 54] [(2, .int .i64 f), (3, .int .i64 y), (5, .pointer (some ⟨bs, 0, none⟩)), (9, .pointer (some ⟨bv, 0, none⟩)), (11, .pointer (some ⟨b11, 0, none⟩)), (12, .int .i64 (k : Int)), (49, .bool true), (53, .slice (some ⟨g, 0, none⟩) N scap), (54, .int .i64 (k : Int))] K (by kernel_rfl) fun a K => ?_
    refine l_val 55 (.pointer (some ⟨g, k * 4, none⟩)) K (by kernel_rfl) (ex_idx_slice' (s := 4) rfl Try.underlying36 (by kernel_rfl) rfl rfl (by omega) (by omega) (by omega)) fun a K => ?_
    refine l_run 1 [2, 3, 5, 9, 11, 12, 49, 56] [(2, .int .i64 f), (3, .int .i64 y), (5, .pointer (some ⟨bs, 0, none⟩)), (9, .pointer (some ⟨bv, 0, none⟩)), (11, .pointer (some ⟨b11, 0, none⟩)), (12, .int .i64 (k : Int)), (49, .bool true), (56, .pointer (some ⟨g, k * 4 + 1, none⟩))] K (by kernel_rfl) fun a K => ?_
    refine l_store K (by kernel_rfl) rfl rfl (show envL _ _ = .int .i64 (-999) from rfl) (by kernel_rfl) rfl og (by omega) ?_
    intro w_14 hc og
    have hz_14 := hc.size
    replace obv := hc.obj (by omega) obv
    replace os_ := hc.obj (by omega) os_
    replace o11 := hc.obj (by omega) o11
    replace hB := below_chg hB hc (by omega)
    have K := K.cut [2, 3, 5, 9, 11, 12, 49] (L' := [(2, .int .i64 f), (3, .int .i64 y), (5, .pointer (some ⟨bs, 0, none⟩)), (9, .pointer (some ⟨bv, 0, none⟩)), (11, .pointer (some ⟨b11, 0, none⟩)), (12, .int .i64 (k : Int)), (49, .bool true)]) (by kernel_rfl)
    refine wpList_nil ?_
    refine block_normal ?_
    refine then_normal ?_
    -- region 9
    refine wp_region_lit ?_
    refine l_run 1 [2, 3, 5, 9, 11, 12, 49, 50] [(2, .int .i64 f), (3, .int .i64 y), (5, .pointer (some ⟨bs, 0, none⟩)), (9, .pointer (some ⟨bv, 0, none⟩)), (11, .pointer (some ⟨b11, 0, none⟩)), (12, .int .i64 (k : Int)), (49, .bool true), (50, .int .i64 (k : Int))] K (by kernel_rfl) fun a K => ?_
    refine l_val 51 (.int .i64 ((k : Int) + 1)) K (by kernel_rfl) (ex_as (v := .int .i64 (IntKind.wrap .i64 ((k : Int) + 1))) (by kernel_rfl) (congrArg _ (IntWalk.i64_in _ (by omega)))) fun a K => ?_
    refine l_run 1 [2, 3, 5, 9, 11, 12, 49] [(2, .int .i64 f), (3, .int .i64 y), (5, .pointer (some ⟨bs, 0, none⟩)), (9, .pointer (some ⟨bv, 0, none⟩)), (11, .pointer (some ⟨b11, 0, none⟩)), (12, .int .i64 ((k : Int) + 1)), (49, .bool true)] K (by kernel_rfl) fun a K => ?_
    refine wpList_nil ?_
    have K := K.cut [2, 3, 5, 9, 11, 12] (L' := [(2, .int .i64 f), (3, .int .i64 y), (5, .pointer (some ⟨bs, 0, none⟩)), (9, .pointer (some ⟨bv, 0, none⟩)), (11, .pointer (some ⟨b11, 0, none⟩)), (12, .int .i64 ((k : Int) + 1))]) (by kernel_rfl)
    exact then_normal ⟨k + 1, by omega, by omega, K, obv, os_, o11, hB, (Or.inr ⟨g, m, _, hsa, hgA, hgZ, og, hgm⟩)⟩
  · refine wp_seq ?_
    refine wp_seq ?_
    -- region 8
    refine wp_region_lit ?_
    refine l_run 2 [2, 3, 5, 9, 11, 12, 45, 46] [(2, .int .i64 f), (3, .int .i64 y), (5, .pointer (some ⟨bs, 0, none⟩)), (9, .pointer (some ⟨bv, 0, none⟩)), (11, .pointer (some ⟨b11, 0, none⟩)), (12, .int .i64 (k : Int)), (45, .int .i64 (k : Int)), (46, .pointer (some ⟨b11, 1, none⟩))] K (by kernel_rfl) fun a K => ?_
    refine l_val 47 (.slice sa N scap) K (by kernel_rfl) (ex_load rfl rfl Try.underlying36 rfl (by rw [← hsv]; exact o11.cell (i := 1) (by omega))) fun a K => ?_
    refine l_run 1 [2, 3, 5, 9, 11, 12, 45, 48] [(2, .int .i64 f), (3, .int .i64 y), (5, .pointer (some ⟨bs, 0, none⟩)), (9, .pointer (some ⟨bv, 0, none⟩)), (11, .pointer (some ⟨b11, 0, none⟩)), (12, .int .i64 (k : Int)), (45, .int .i64 (k : Int)), (48, .int .i64 (N : Int))] K (by kernel_rfl) fun a K => ?_
    refine l_val 49 (.bool false) K (by kernel_rfl) (ex_as (v := .bool (decide ((k : Int) < (N : Int)))) (by kernel_rfl) (congrArg _ (decide_eq_false (by omega)))) fun a K => ?_
    have K := K.cut [2, 3, 5, 9, 11, 12, 49] (L' := [(2, .int .i64 f), (3, .int .i64 y), (5, .pointer (some ⟨bs, 0, none⟩)), (9, .pointer (some ⟨bv, 0, none⟩)), (11, .pointer (some ⟨b11, 0, none⟩)), (12, .int .i64 (k : Int)), (49, .bool false)]) (by kernel_rfl)
    refine wpList_nil ?_
    refine then_normal ?_
    refine v_false K rfl rfl ?_
    refine wp_exit ?_
    refine then_exit ?_
    refine then_exit ?_
    refine block_exit ?_
    refine then_normal ?_
    refine wp_seq ?_
    -- region 11
    refine wp_region_lit ?_
    refine l_run 3 [2, 3, 5, 9, 11, 12, 49, 57, 58, 59] [(2, .int .i64 f), (3, .int .i64 y), (5, .pointer (some ⟨bs, 0, none⟩)), (9, .pointer (some ⟨bv, 0, none⟩)), (11, .pointer (some ⟨b11, 0, none⟩)), (12, .int .i64 (k : Int)), (49, .bool false), (57, .pointer (some ⟨bv, 0, none⟩)), (58, .int .i64 f), (59, .int .i64 y)] K (by kernel_rfl) fun a K => ?_
    refine l_call 60 K (by kernel_rfl) (ex_pure (by kernel_rfl) _) (H.pl f y obv os_) ?_
    rintro e w_15 ⟨fv3, sv3, rfl, hfo3, hso3, hb⟩
    have hz_15 := hb.size
    replace obv := obv.below hb obv.lt
    replace os_ := os_.below hb os_.lt
    replace hB := hB.trans (hb.mono hB.size)
    refine ⟨_, rfl, fun a K => ?_⟩
    refine l_run 3 [2, 3, 5, 9, 11, 12, 49, 60, 61, 62, 63] [(2, .int .i64 f), (3, .int .i64 y), (5, .pointer (some ⟨bs, 0, none⟩)), (9, .pointer (some ⟨bv, 0, none⟩)), (11, .pointer (some ⟨b11, 0, none⟩)), (12, .int .i64 (k : Int)), (49, .bool false), (60, .agg (blk 1028 (lineC fv3 sv3 (LR M f y) (LL M f y) (LP M f y)))), (61, .pointer (some ⟨bv, 0, none⟩)), (62, .int .i64 f), (63, .int .i64 y)] K (by kernel_rfl) fun a K => ?_
    refine l_call 64 K (by kernel_rfl) (ex_pure (by kernel_rfl) _) (H.rl f y obv os_) ?_
    rintro e w_16 ⟨fv4, sv4, rfl, hfo4, hso4, hb⟩
    have hz_16 := hb.size
    replace obv := obv.below hb obv.lt
    replace os_ := os_.below hb os_.lt
    replace hB := hB.trans (hb.mono hB.size)
    replace hfo3 := hfo3.full hb
    replace hso3 := hso3.full hb
    refine ⟨_, rfl, fun a K => ?_⟩
    refine l_call 65 K (by kernel_rfl) (ex_pure (by kernel_rfl) _) (lines_any _ _ _ _ fv3 fv4 sv3 sv4 (LF M f y) (LS M f y) (LR M f y) (LL M f y) (LP M f y) (LD M f y) _ hfo3 hfo4 hso3 hso4 (LP_eq M f y)) ?_
    rintro e w_17 ⟨rfl, hb⟩
    have hz_17 := hb.size
    replace obv := obv.below hb obv.lt
    replace os_ := os_.below hb os_.lt
    replace hB := hB.trans (hb.mono hB.size)
    replace hfo3 := hfo3.full hb
    replace hso3 := hso3.full hb
    replace hfo4 := hfo4.full hb
    replace hso4 := hso4.full hb
    refine ⟨_, rfl, fun a K => ?_⟩
    refine l_run 1 [2, 3, 5, 9, 11, 12, 49, 66] [(2, .int .i64 f), (3, .int .i64 y), (5, .pointer (some ⟨bs, 0, none⟩)), (9, .pointer (some ⟨bv, 0, none⟩)), (11, .pointer (some ⟨b11, 0, none⟩)), (12, .int .i64 (k : Int)), (49, .bool false), (66, .bool true)] K (by kernel_rfl) fun a K => ?_
    refine l_call 67 K (by kernel_rfl) (ex_pure (by kernel_rfl) _) (awake_any _) ?_
    rintro e w_18 ⟨rfl, hb⟩
    have hz_18 := hb.size
    replace obv := obv.below hb obv.lt
    replace os_ := os_.below hb os_.lt
    replace hB := hB.trans (hb.mono hB.size)
    replace hfo3 := hfo3.full hb
    replace hso3 := hso3.full hb
    replace hfo4 := hfo4.full hb
    replace hso4 := hso4.full hb
    refine ⟨_, rfl, fun a K => ?_⟩
    refine l_run 2 [2, 3, 5, 9, 11, 12, 49, 8] [(2, .int .i64 f), (3, .int .i64 y), (5, .pointer (some ⟨bs, 0, none⟩)), (9, .pointer (some ⟨bv, 0, none⟩)), (11, .pointer (some ⟨b11, 0, none⟩)), (12, .int .i64 (k : Int)), (49, .bool false), (8, .bool true)] K (by kernel_rfl) fun a K => ?_
    refine wpList_nil ?_
    refine then_normal ?_
    refine wp_ret ?_
    exact v_ret1 K rfl rfl ⟨rfl, hB⟩
end Go.Proofs.Ytoaecfaackkicaa
