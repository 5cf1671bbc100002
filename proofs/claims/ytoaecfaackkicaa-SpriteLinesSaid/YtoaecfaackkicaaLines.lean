/- The walks of the statements' own small functions: the memories that are made, two lines compared, a list spoilt. -/
import Derived.Test.YtoaecfaackkicaaVideo
import Derived.Test.YtoaecfaackkicaaStep
import Derived.Test.YtoaecfaackkicaaPlain
namespace Go.Proofs.Ytoaecfaackkicaa
open Go Go.RowKit

theorem video_any (wv ov cv : Value) (ws os cs : List Int) (w : World) (hw : SlIn w .u16 wv ws) (ho : SlIn w .u8 ov os) (hc : SlIn w .u16 cv cs) :
    Calls Try.prog 7 #[.agg #[wv, ov, cv]] w fun e w' => ∃ b, e = .returned (.pointer (some ⟨b, 0, none⟩)) ∧ w.heap.size ≤ b ∧ ObjAt w' b 49 33568 (vidC (vrOf ws) (oaOf os) (cgOf cs)) ∧ Below w.heap.size w w' := by
  have hB : Below w.heap.size w w := Below.refl _ _
  refine v_enter Try.func7 rfl 10 rfl (by kernel_rfl) fun a K => ?_
  have K := K.cut [0] (L' := [(0, .agg #[wv, ov, cv])]) (by kernel_rfl)
  show Code.wp _ _ _ _ _
  refine wp_seq ?_
  -- region 0
  refine wp_region_lit ?_
  refine l_box 1 3 (arrC #[wv, ov, cv]) K (by kernel_rfl) rfl (show envL _ _ = .agg #[wv, ov, cv] from rfl) (arr_blk rfl) ?_
  intro b_1 w_1 hbn hb ob_1 a K
  have hz_8 := hb.size
  replace hw := hw.below hb
  replace ho := ho.below hb
  replace hc := hc.below hb
  replace hB := hB.trans (hb.mono hB.size)
  have lt_b_1 := ob_1.lt
  refine l_run 1 [0, 1, 2] [(0, .agg #[wv, ov, cv]), (1, .pointer (some ⟨b_1, 0, none⟩)), (2, .pointer none)] K (by kernel_rfl) fun a K => ?_
  refine wpList_nil ?_
  refine then_normal ?_
  refine wp_seq ?_
  -- region 1
  refine wp_region_lit ?_
  refine l_run 1 [0, 1, 2, 3] [(0, .agg #[wv, ov, cv]), (1, .pointer (some ⟨b_1, 0, none⟩)), (2, .pointer none), (3, .pointer (some ⟨b_1, 0, none⟩))] K (by kernel_rfl) fun a K => ?_
  refine l_val 4 (wv) K (by kernel_rfl) (ex_load rfl rfl Try.underlying22 rfl (ob_1.cell (i := 0) (by omega))) fun a K => ?_
  refine l_run 1 [0, 1, 2, 4, 5] [(0, .agg #[wv, ov, cv]), (1, .pointer (some ⟨b_1, 0, none⟩)), (2, .pointer none), (4, wv), (5, .pointer (some ⟨b_1, 1, none⟩))] K (by kernel_rfl) fun a K => ?_
  refine l_val 6 (ov) K (by kernel_rfl) (ex_load rfl rfl Try.underlying23 rfl (ob_1.cell (i := 1) (by omega))) fun a K => ?_
  refine l_run 1 [0, 1, 2, 4, 6, 7] [(0, .agg #[wv, ov, cv]), (1, .pointer (some ⟨b_1, 0, none⟩)), (2, .pointer none), (4, wv), (6, ov), (7, .pointer (some ⟨b_1, 2, none⟩))] K (by kernel_rfl) fun a K => ?_
  refine l_val 8 (cv) K (by kernel_rfl) (ex_load rfl rfl Try.underlying22 rfl (ob_1.cell (i := 2) (by omega))) fun a K => ?_
  refine l_call 9 K (by kernel_rfl) (ex_pure (by kernel_rfl) _) (videoOf_any wv ov cv ws os cs _ hw ho hc) ?_
  rintro e w_2 ⟨bv, rfl, hbv, hov, hb⟩
  have hz_28 := hb.size
  replace hw := hw.below hb
  replace ho := ho.below hb
  replace hc := hc.below hb
  replace hB := hB.trans (hb.mono hB.size)
  replace ob_1 := ob_1.below hb ob_1.lt
  replace lt_b_1 := Nat.lt_of_lt_of_le lt_b_1 hb.size
  refine ⟨_, rfl, fun a K => ?_⟩
  refine l_run 1 [0, 1, 2] [(0, .agg #[wv, ov, cv]), (1, .pointer (some ⟨b_1, 0, none⟩)), (2, .pointer (some ⟨bv, 0, none⟩))] K (by kernel_rfl) fun a K => ?_
  refine wpList_nil ?_
  refine then_normal ?_
  refine wp_ret ?_
  exact v_ret1 K rfl rfl ⟨bv, rfl, Nat.le_trans (by omega) hbv, hov, hB⟩

theorem ownS_at {B : Nat} {w : World} {sa : Option Addr} {n scap : Nat} {S : List Sl} (h : OwnS B w (.slice sa n scap) S) {k : Nat} (hk : k < S.length) :
    ∃ g, sa = some ⟨g, 0, none⟩ ∧ (w.cell? ⟨g, k * 4, none⟩ = some (.int .i64 S[k].sp) ∧ w.cell? ⟨g, k * 4 + 1, none⟩ = some (.int .i64 S[k].x) ∧ w.cell? ⟨g, k * 4 + 2, none⟩ = some (.int .i64 S[k].col) ∧ w.cell? ⟨g, k * 4 + 3, none⟩ = some (.int .i64 S[k].row)) := by
  obtain ⟨a, cap, e, -, -, hx⟩ := h.form
  cases e
  rcases hx with hx | ⟨g, rfl, -, -, hc, -⟩
  · omega
  · exact ⟨g, rfl, hc k hk⟩
theorem ownI_at {B : Nat} {w : World} {sa : Option Addr} {n scap : Nat} {S : List Int} (h : OwnI B w (.slice sa n scap) S) {k : Nat} (hk : k < S.length) : ∃ g, sa = some ⟨g, 0, none⟩ ∧ w.cell? ⟨g, k, none⟩ = some (.int .i64 (S.getD k 0)) := by
  obtain ⟨a, cap, e, -, -, hx⟩ := h.form
  cases e
  rcases hx with hx | ⟨g, rfl, -, -, hc, -⟩
  · omega
  · exact ⟨g, rfl, hc k hk⟩
/-- The dots of a line as cells. -/
def dotsC (d : Nat → Dt) : Nat → Value := fun i => dtc (d (i / 4)) (i % 4)
theorem lineC_dots (fv sv : Value) (ro late : Bool) (d d' : Nat → Dt) (h : ∀ x, x < 256 → d x = d' x) : (blk 1024 fun j => lineC fv sv ro late d (4 + j)) = blk 1024 (dotsC d') := blk_congr fun i hi => by
  unfold lineC dotsC
  rw [if_neg (by omega), if_neg (by omega), if_neg (by omega), if_neg (by omega), show 4 + i - 4 = i by omega, h (i / 4) (by omega)]
theorem selfEq_dot (D : Dt) : SelfEq Try.prog 2 38 (.agg #[.bool D.see, .int .u8 D.prio, .int .u8 D.index, .int .u16 D.colour]) := by
  have e : (#[.bool D.see, .int .u8 D.prio, .int .u8 D.index, .int .u16 D.colour] : Array Value) = blk 4 (dtc D) := eq_blk rfl fun i hi => by match i, hi with | 0, _ => rfl | 1, _ => rfl | 2, _ => rfl | 3, _ => rfl
  rw [e]
  refine selfEq_struct Try.underlying38 (by kernel_rfl) fun f hf => ?_
  simp only [List.mem_cons, List.not_mem_nil, or_false] at hf
  rcases hf with rfl | rfl | rfl | rfl
  · exact self_leaf Try.underlying4 rfl (by decide) (selfEq_bool Try.underlying4)
  · exact self_leaf Try.underlying5 rfl (by decide) (selfEq_int Try.underlying5)
  · exact self_leaf Try.underlying5 rfl (by decide) (selfEq_int Try.underlying5)
  · exact self_leaf Try.underlying27 rfl (by decide) (selfEq_int Try.underlying27)
theorem selfEq_dots (d : Nat → Dt) : SelfEq Try.prog 3 39 (.agg (blk 1024 (dotsC d))) := by
  obtain ⟨ti, hti⟩ : ∃ ti, Try.prog.info? 38 = some ti := Option.isSome_iff_exists.1 (by kernel_rfl)
  refine selfEq_array Try.underlying39 hti fun i hi => ?_
  have hs : Try.prog.cellsOf 38 = 4 := by kernel_rfl
  rw [hs]
  refine self_part (s := 4) Try.underlying38 rfl (by kernel_rfl) (by omega) ?_
  have e : (blk 4 fun j => dotsC d (i * 4 + j)) = #[.bool (d i).see, .int .u8 (d i).prio, .int .u8 (d i).index, .int .u16 (d i).colour] := by
    refine (eq_blk (n := 4) rfl fun j hj => ?_).symm
    have h1 : (i * 4 + j) / 4 = i := by omega
    have h2 : (i * 4 + j) % 4 = j := by omega
    unfold dotsC
    rw [h1, h2]
    match j, hj with | 0, _ => rfl | 1, _ => rfl | 2, _ => rfl | 3, _ => rfl
  rw [e]
  exact selfEq_dot _
theorem selfEq_sl (s : Sl) : SelfEq Try.prog 2 52 (.agg #[.int .i64 s.sp, .int .i64 s.x, .int .i64 s.col, .int .i64 s.row]) := by
  have e : (#[.int .i64 s.sp, .int .i64 s.x, .int .i64 s.col, .int .i64 s.row] : Array Value) = blk 4 (arrC #[.int .i64 s.sp, .int .i64 s.x, .int .i64 s.col, .int .i64 s.row]) := arr_blk rfl
  rw [e]
  refine selfEq_struct Try.underlying52 (by kernel_rfl) fun f hf => ?_
  simp only [List.mem_cons, List.not_mem_nil, or_false] at hf
  rcases hf with rfl | rfl | rfl | rfl
  all_goals exact self_leaf Try.underlying3 rfl (by decide) (selfEq_int Try.underlying3)
/-- A sliver read out of its list. -/
theorem ex_load_sl {w : World} {o : Oper} {ρ : Operand → Value} {g k : Nat} {s : Sl} (x : Operand) (ho : o.op = .load 52 x) (hx : ρ x = .pointer (some ⟨g, k * 4, none⟩))
    (h : w.cell? ⟨g, k * 4, none⟩ = some (.int .i64 s.sp) ∧ w.cell? ⟨g, k * 4 + 1, none⟩ = some (.int .i64 s.x) ∧ w.cell? ⟨g, k * 4 + 2, none⟩ = some (.int .i64 s.col) ∧ w.cell? ⟨g, k * 4 + 3, none⟩ = some (.int .i64 s.row)) :
    (execOp ρ o).run Try.prog w = .ok (.value (.agg #[.int .i64 s.sp, .int .i64 s.x, .int .i64 s.col, .int .i64 s.row])) w := by
  obtain ⟨h0, h1, h2, h3⟩ := h
  unfold execOp
  rw [ho]
  simp only [hx, Instr.loadAt, Instr.sureAddr]
  unfold loadVar
  simp [Sem.run_bind, run_isAgg Try.underlying52, run_sizeOf' (show (Try.prog.info? 52).map (·.size) = some 4 by kernel_rfl), loadCells, loadCellsFrom, load, Sem.run, Addr.add, h0, h1, h2, h3]

theorem ints_bel (B B' : Nat) (w : World) (v v' : Value) (xs : List Int) (h : OwnI B w v xs) (h' : OwnI B' w v' xs) :
    Calls Try.prog 20 #[v, v'] w fun e w' => e = .returned (.bool true) ∧ Below w.heap.size w w' :=
  (ints_any B B' w v v' xs h h').mono fun _ _ ⟨he, n, hw⟩ => ⟨he, by rw [hw]; exact below_drewN' (Below.refl _ _) n⟩
set_option maxRecDepth 100000 in
/-- Two lines that say the same. -/
theorem lines_any (B1 B2 B3 B4 : Nat) (fv fv' sv sv' : Value) (F : List Int) (Sl0 : List Sl) (ro late : Bool) (d d' : Nat → Dt) (w : World) (hf : OwnI B1 w fv F) (hf' : OwnI B2 w fv' F) (hs : OwnS B3 w sv Sl0) (hs' : OwnS B4 w sv' Sl0) (hd : ∀ x, x < 256 → d x = d' x) :
    Calls Try.prog 9 #[.agg (blk 1028 (lineC fv sv ro late d)), .agg (blk 1028 (lineC fv' sv' ro late d'))] w fun e w' => e = .returned (.bool true) ∧ Below w.heap.size w w' := by
  have hB : Below w.heap.size w w := Below.refl _ _
  have hdd : ∀ x, x < 256 → d' x = d' x := fun _ _ => rfl
  obtain ⟨sa, scap, rfl, hsl, hsm, -⟩ := hs.form
  obtain ⟨sa', scap', rfl, hsl', hsm', -⟩ := hs'.form
  unfold maxLen at hsm hsm'
  obtain ⟨N, hN⟩ : ∃ N, N = Sl0.length := ⟨_, rfl⟩
  rw [← hN] at hs hs' hsl hsl' ⊢
  have HN := Lib.hid hN
  clear hN
  refine v_enter Try.func9 rfl 58 rfl (by kernel_rfl) fun a K => ?_
  have K := K.cut [0, 1] (L' := [(0, .agg (blk 1028 (lineC fv (.slice sa N scap) ro late d))), (1, .agg (blk 1028 (lineC fv' (.slice sa' N scap') ro late d')))]) (by kernel_rfl)
  show Code.wp _ _ _ _ _
  refine wp_seq ?_
  -- region 0
  refine wp_region_lit ?_
  refine l_box 2 1028 (lineC fv (.slice sa N scap) ro late d) K (by kernel_rfl) rfl (show envL _ _ = .agg (blk 1028 (lineC fv (.slice sa N scap) ro late d)) from rfl) (cells_agg _) ?_
  intro b2 w_1 hbn hb o2 a K
  have hz_8 := hb.size
  replace hf := hf.full hb
  replace hf' := hf'.full hb
  replace hs := hs.full hb
  replace hs' := hs'.full hb
  replace hB := hB.trans (hb.mono hB.size)
  have lt_b2 := o2.lt
  refine l_box 3 1028 (lineC fv' (.slice sa' N scap') ro late d') K (by kernel_rfl) rfl (show envL _ _ = .agg (blk 1028 (lineC fv' (.slice sa' N scap') ro late d')) from rfl) (cells_agg _) ?_
  intro b3 w_2 hbn hb o3 a K
  have hz_17 := hb.size
  replace hf := hf.full hb
  replace hf' := hf'.full hb
  replace hs := hs.full hb
  replace hs' := hs'.full hb
  replace hB := hB.trans (hb.mono hB.size)
  replace o2 := o2.below hb o2.lt
  replace lt_b2 := Nat.lt_of_lt_of_le lt_b2 hb.size
  have lt_b3 := o3.lt
  refine l_run 1 [0, 1, 2, 3, 4] [(0, .agg (blk 1028 (lineC fv (.slice sa N scap) ro late d))), (1, .agg (blk 1028 (lineC fv' (.slice sa' N scap') ro late d'))), (2, .pointer (some ⟨b2, 0, none⟩)), (3, .pointer (some ⟨b3, 0, none⟩)), (4, .bool false)] K (by kernel_rfl) fun a K => ?_
  refine wpList_nil ?_
  refine then_normal ?_
  refine wp_seq ?_
  refine wp_seq ?_
  -- region 1
  refine wp_region_lit ?_
  refine l_run 1 [0, 1, 2, 3, 4, 6] [(0, .agg (blk 1028 (lineC fv (.slice sa N scap) ro late d))), (1, .agg (blk 1028 (lineC fv' (.slice sa' N scap') ro late d'))), (2, .pointer (some ⟨b2, 0, none⟩)), (3, .pointer (some ⟨b3, 0, none⟩)), (4, .bool false), (6, .pointer (some ⟨b2, 0, none⟩))] K (by kernel_rfl) fun a K => ?_
  refine l_val 7 (fv) K (by kernel_rfl) (ex_load rfl rfl Try.underlying35 rfl (o2.cell (i := 0) (by omega))) fun a K => ?_
  refine l_run 1 [0, 1, 2, 3, 4, 7, 8] [(0, .agg (blk 1028 (lineC fv (.slice sa N scap) ro late d))), (1, .agg (blk 1028 (lineC fv' (.slice sa' N scap') ro late d'))), (2, .pointer (some ⟨b2, 0, none⟩)), (3, .pointer (some ⟨b3, 0, none⟩)), (4, .bool false), (7, fv), (8, .pointer (some ⟨b3, 0, none⟩))] K (by kernel_rfl) fun a K => ?_
  refine l_val 9 (fv') K (by kernel_rfl) (ex_load rfl rfl Try.underlying35 rfl (o3.cell (i := 0) (by omega))) fun a K => ?_
  refine l_call 10 K (by kernel_rfl) (ex_pure (by kernel_rfl) _) (ints_bel B1 B2 _ fv fv' F hf hf') ?_
  rintro e w_3 ⟨rfl, hb⟩
  have hz_39 := hb.size
  replace hf := hf.full hb
  replace hf' := hf'.full hb
  replace hs := hs.full hb
  replace hs' := hs'.full hb
  replace hB := hB.trans (hb.mono hB.size)
  replace o2 := o2.below hb o2.lt
  replace lt_b2 := Nat.lt_of_lt_of_le lt_b2 hb.size
  replace o3 := o3.below hb o3.lt
  replace lt_b3 := Nat.lt_of_lt_of_le lt_b3 hb.size
  refine ⟨_, rfl, fun a K => ?_⟩
  refine l_run 3 [0, 1, 2, 3, 4, 12, 13] [(0, .agg (blk 1028 (lineC fv (.slice sa N scap) ro late d))), (1, .agg (blk 1028 (lineC fv' (.slice sa' N scap') ro late d'))), (2, .pointer (some ⟨b2, 0, none⟩)), (3, .pointer (some ⟨b3, 0, none⟩)), (4, .bool false), (12, .bool false), (13, .pointer (some ⟨b2, 1, none⟩))] K (by kernel_rfl) fun a K => ?_
  refine l_val 14 (.slice sa N scap) K (by kernel_rfl) (ex_load rfl rfl Try.underlying36 rfl (o2.cell (i := 1) (by omega))) fun a K => ?_
  refine l_run 2 [0, 1, 2, 3, 4, 12, 15, 16] [(0, .agg (blk 1028 (lineC fv (.slice sa N scap) ro late d))), (1, .agg (blk 1028 (lineC fv' (.slice sa' N scap') ro late d'))), (2, .pointer (some ⟨b2, 0, none⟩)), (3, .pointer (some ⟨b3, 0, none⟩)), (4, .bool false), (12, .bool false), (15, .int .i64 (N : Int)), (16, .pointer (some ⟨b3, 1, none⟩))] K (by kernel_rfl) fun a K => ?_
  refine l_val 17 (.slice sa' N scap') K (by kernel_rfl) (ex_load rfl rfl Try.underlying36 rfl (o3.cell (i := 1) (by omega))) fun a K => ?_
  refine l_run 1 [0, 1, 2, 3, 4, 12, 15, 18] [(0, .agg (blk 1028 (lineC fv (.slice sa N scap) ro late d))), (1, .agg (blk 1028 (lineC fv' (.slice sa' N scap') ro late d'))), (2, .pointer (some ⟨b2, 0, none⟩)), (3, .pointer (some ⟨b3, 0, none⟩)), (4, .bool false), (12, .bool false), (15, .int .i64 (N : Int)), (18, .int .i64 (N : Int))] K (by kernel_rfl) fun a K => ?_
  refine l_val 19 (.bool false) K (by kernel_rfl) (ex_as (v := .bool ((N : Int) != (N : Int))) (by kernel_rfl) (congrArg _ (by simp <;> omega))) fun a K => ?_
  refine l_run 3 [0, 1, 2, 3, 4, 21, 22] [(0, .agg (blk 1028 (lineC fv (.slice sa N scap) ro late d))), (1, .agg (blk 1028 (lineC fv' (.slice sa' N scap') ro late d'))), (2, .pointer (some ⟨b2, 0, none⟩)), (3, .pointer (some ⟨b3, 0, none⟩)), (4, .bool false), (21, .bool false), (22, .pointer (some ⟨b2, 2, none⟩))] K (by kernel_rfl) fun a K => ?_
  refine l_val 23 (.bool ro) K (by kernel_rfl) (ex_load rfl rfl Try.underlying4 rfl (o2.cell (i := 2) (by omega))) fun a K => ?_
  refine l_run 1 [0, 1, 2, 3, 4, 21, 23, 24] [(0, .agg (blk 1028 (lineC fv (.slice sa N scap) ro late d))), (1, .agg (blk 1028 (lineC fv' (.slice sa' N scap') ro late d'))), (2, .pointer (some ⟨b2, 0, none⟩)), (3, .pointer (some ⟨b3, 0, none⟩)), (4, .bool false), (21, .bool false), (23, .bool ro), (24, .pointer (some ⟨b3, 2, none⟩))] K (by kernel_rfl) fun a K => ?_
  refine l_val 25 (.bool ro) K (by kernel_rfl) (ex_load rfl rfl Try.underlying4 rfl (o3.cell (i := 2) (by omega))) fun a K => ?_
  refine l_val 26 (.bool false) K (by kernel_rfl) (ex_as (v := .bool (!(ro == ro))) (by kernel_rfl) (by simp)) fun a K => ?_
  refine l_run 3 [0, 1, 2, 3, 4, 28, 29] [(0, .agg (blk 1028 (lineC fv (.slice sa N scap) ro late d))), (1, .agg (blk 1028 (lineC fv' (.slice sa' N scap') ro late d'))), (2, .pointer (some ⟨b2, 0, none⟩)), (3, .pointer (some ⟨b3, 0, none⟩)), (4, .bool false), (28, .bool false), (29, .pointer (some ⟨b2, 3, none⟩))] K (by kernel_rfl) fun a K => ?_
  refine l_val 30 (.bool late) K (by kernel_rfl) (ex_load rfl rfl Try.underlying4 rfl (o2.cell (i := 3) (by omega))) fun a K => ?_
  refine l_run 1 [0, 1, 2, 3, 4, 28, 30, 31] [(0, .agg (blk 1028 (lineC fv (.slice sa N scap) ro late d))), (1, .agg (blk 1028 (lineC fv' (.slice sa' N scap') ro late d'))), (2, .pointer (some ⟨b2, 0, none⟩)), (3, .pointer (some ⟨b3, 0, none⟩)), (4, .bool false), (28, .bool false), (30, .bool late), (31, .pointer (some ⟨b3, 3, none⟩))] K (by kernel_rfl) fun a K => ?_
  refine l_val 32 (.bool late) K (by kernel_rfl) (ex_load rfl rfl Try.underlying4 rfl (o3.cell (i := 3) (by omega))) fun a K => ?_
  refine l_val 33 (.bool false) K (by kernel_rfl) (ex_as (v := .bool (!(late == late))) (by kernel_rfl) (by simp)) fun a K => ?_
  refine l_run 1 [0, 1, 2, 3, 4, 34] [(0, .agg (blk 1028 (lineC fv (.slice sa N scap) ro late d))), (1, .agg (blk 1028 (lineC fv' (.slice sa' N scap') ro late d'))), (2, .pointer (some ⟨b2, 0, none⟩)), (3, .pointer (some ⟨b3, 0, none⟩)), (4, .bool false), (34, .bool false)] K (by kernel_rfl) fun a K => ?_
  refine wpList_nil ?_
  refine then_normal ?_
  refine v_false K rfl rfl ?_
  refine wp_skip ?_
  refine then_normal ?_
  refine wp_seq ?_
  refine wp_seq ?_
  -- region 3
  refine wp_region_lit ?_
  refine l_run 1 [0, 1, 2, 3, 4, 34, 5] [(0, .agg (blk 1028 (lineC fv (.slice sa N scap) ro late d))), (1, .agg (blk 1028 (lineC fv' (.slice sa' N scap') ro late d'))), (2, .pointer (some ⟨b2, 0, none⟩)), (3, .pointer (some ⟨b3, 0, none⟩)), (4, .bool false), (34, .bool false), (5, .int .i64 0)] K (by kernel_rfl) fun a K => ?_
  refine wpList_nil ?_
  refine then_normal ?_
  refine wp_block ?_
  have K := K.cut [2, 3, 4, 5] (L' := [(2, .pointer (some ⟨b2, 0, none⟩)), (3, .pointer (some ⟨b3, 0, none⟩)), (4, .bool false), (5, .int .i64 0)]) (by kernel_rfl)
  refine v_for (fun k a W' => Knows 58 [(2, .pointer (some ⟨b2, 0, none⟩)), (3, .pointer (some ⟨b3, 0, none⟩)), (4, .bool false), (5, .int .i64 (k : Int))] a ∧ Below w_3.heap.size w_3 W') N 0 (by omega) ⟨K, Below.refl _ _⟩ ?_
  intro k a w_4 hkk ⟨K, hL⟩
  have hz_83 := hL.size
  replace hf := hf.full hL
  replace hf' := hf'.full hL
  replace hs := hs.full hL
  replace hs' := hs'.full hL
  replace hB := hB.trans (hL.mono hB.size)
  replace o2 := o2.below hL o2.lt
  replace lt_b2 := Nat.lt_of_lt_of_le lt_b2 hL.size
  replace o3 := o3.below hL o3.lt
  replace lt_b3 := Nat.lt_of_lt_of_le lt_b3 hL.size
  by_cases hltk : k < N
  · have hkl : k < Sl0.length := by rw [← HN.out]; exact hltk
    obtain ⟨ga, hga, hcs⟩ := ownS_at hs hkl
    obtain ⟨gb, hgb, hcs'⟩ := ownS_at hs' hkl
    obtain ⟨s, hse⟩ : ∃ s, s = Sl0[k] := ⟨_, rfl⟩
    rw [← hse] at hcs hcs'
    refine wp_seq ?_
    refine wp_seq ?_
    -- region 4
    refine wp_region_lit ?_
    refine l_run 2 [2, 3, 4, 5, 35, 36] [(2, .pointer (some ⟨b2, 0, none⟩)), (3, .pointer (some ⟨b3, 0, none⟩)), (4, .bool false), (5, .int .i64 (k : Int)), (35, .int .i64 (k : Int)), (36, .pointer (some ⟨b2, 1, none⟩))] K (by kernel_rfl) fun a K => ?_
    refine l_val 37 (.slice (some ⟨ga, 0, none⟩) N scap) K (by kernel_rfl) (ex_load rfl rfl Try.underlying36 rfl (by rw [← hga]; exact o2.cell (i := 1) (by omega))) fun a K => ?_
    refine l_run 1 [2, 3, 4, 5, 35, 38] [(2, .pointer (some ⟨b2, 0, none⟩)), (3, .pointer (some ⟨b3, 0, none⟩)), (4, .bool false), (5, .int .i64 (k : Int)), (35, .int .i64 (k : Int)), (38, .int .i64 (N : Int))] K (by kernel_rfl) fun a K => ?_
    refine l_val 39 (.bool true) K (by kernel_rfl) (ex_as (v := .bool (decide ((k : Int) < (N : Int)))) (by kernel_rfl) (congrArg _ (decide_eq_true (by omega)))) fun a K => ?_
    have K := K.cut [2, 3, 4, 5, 39] (L' := [(2, .pointer (some ⟨b2, 0, none⟩)), (3, .pointer (some ⟨b3, 0, none⟩)), (4, .bool false), (5, .int .i64 (k : Int)), (39, .bool true)]) (by kernel_rfl)
    refine wpList_nil ?_
    refine then_normal ?_
    refine v_true K rfl rfl ?_
    refine wp_skip ?_
    refine then_normal ?_
    refine wp_seq ?_
    refine wp_block ?_
    refine wp_seq ?_
    -- region 6
    refine d_region 11 (fun w' => w' = w_4.drew) (by kernel_rfl) ?_
    have hb : Below w_4.heap.size w_4 w_4.drew := (Below.refl _ _).drew
    have hz_25 := hb.size
    replace hf := hf.full hb
    replace hf' := hf'.full hb
    replace hs := hs.full hb
    replace hs' := hs'.full hb
    replace hB := hB.trans (hb.mono hB.size)
    replace o2 := o2.below hb o2.lt
    replace lt_b2 := Nat.lt_of_lt_of_le lt_b2 hb.size
    replace o3 := o3.below hb o3.lt
    replace lt_b3 := Nat.lt_of_lt_of_le lt_b3 hb.size
    replace hL := hL.trans (hb.mono hL.size)
    refine d_run (fuel := 7) [0, 2, 5, 7] [2, 3, 4, 5, 39, 42, 44, 47, 49] #[true, false, true, false, false, true, false, true, false, false, false] [(2, .pointer (some ⟨b2, 0, none⟩)), (3, .pointer (some ⟨b3, 0, none⟩)), (4, .bool false), (5, .int .i64 (k : Int)), (39, .bool true), (42, .pointer (some ⟨b2, 1, none⟩)), (44, .int .i64 (k : Int)), (47, .pointer (some ⟨b3, 1, none⟩)), (49, .int .i64 (k : Int))] K (fun _ _ _ _ _ h => h) (by kernel_rfl) (by kernel_rfl) rfl fun a K => ?_
    refine d_val 1 43 (.slice (some ⟨ga, 0, none⟩) N scap) K (fun _ _ _ _ _ h => h) rfl (by kernel_rfl) (by kernel_rfl) (by kernel_rfl) (by intro w' hS'; subst hS'; exact (ex_load rfl rfl Try.underlying36 rfl (by rw [← hga]; exact o2.cell (i := 1) (by omega)))) rfl fun a K => ?_
    refine d_val 3 45 (.pointer (some ⟨ga, k * 4, none⟩)) K (fun _ _ _ _ _ h => h) rfl (by kernel_rfl) (by kernel_rfl) (by kernel_rfl) (by intro w' hS'; subst hS'; exact (ex_idx_slice' (s := 4) rfl Try.underlying36 (by kernel_rfl) rfl rfl (by omega) (by omega) (by omega))) rfl fun a K => ?_
    refine d_val 4 46 (.agg #[.int .i64 s.sp, .int .i64 s.x, .int .i64 s.col, .int .i64 s.row]) K (fun _ _ _ _ _ h => h) rfl (by kernel_rfl) (by kernel_rfl) (by kernel_rfl) (by intro w' hS'; subst hS'; exact (ex_load_sl _ rfl rfl hcs)) rfl fun a K => ?_
    refine d_val 6 48 (.slice (some ⟨gb, 0, none⟩) N scap') K (fun _ _ _ _ _ h => h) rfl (by kernel_rfl) (by kernel_rfl) (by kernel_rfl) (by intro w' hS'; subst hS'; exact (ex_load rfl rfl Try.underlying36 rfl (by rw [← hgb]; exact o3.cell (i := 1) (by omega)))) rfl fun a K => ?_
    refine d_val 8 50 (.pointer (some ⟨gb, k * 4, none⟩)) K (fun _ _ _ _ _ h => h) rfl (by kernel_rfl) (by kernel_rfl) (by kernel_rfl) (by intro w' hS'; subst hS'; exact (ex_idx_slice' (s := 4) rfl Try.underlying36 (by kernel_rfl) rfl rfl (by omega) (by omega) (by omega))) rfl fun a K => ?_
    refine d_val 9 51 (.agg #[.int .i64 s.sp, .int .i64 s.x, .int .i64 s.col, .int .i64 s.row]) K (fun _ _ _ _ _ h => h) rfl (by kernel_rfl) (by kernel_rfl) (by kernel_rfl) (by intro w' hS'; subst hS'; exact (ex_load_sl _ rfl rfl hcs')) rfl fun a K => ?_
    refine d_val 10 52 (.bool false) K (fun _ _ _ _ _ h => h) rfl (by kernel_rfl) (by kernel_rfl) (by kernel_rfl) (by intro w' hS'; subst hS'; exact (exec_neq_self (selfEq_sl s) (by omega) (by kernel_rfl) _ _ rfl rfl rfl _)) rfl fun a K => ?_
    have K := K.cut [2, 3, 4, 5, 39, 52] (L' := [(2, .pointer (some ⟨b2, 0, none⟩)), (3, .pointer (some ⟨b3, 0, none⟩)), (4, .bool false), (5, .int .i64 (k : Int)), (39, .bool true), (52, .bool false)]) (by kernel_rfl)
    refine d_done (by kernel_rfl) ?_
    refine then_normal ?_
    refine v_false K rfl rfl ?_
    refine wp_skip ?_
    refine block_normal ?_
    refine then_normal ?_
    -- region 5
    refine wp_region_lit ?_
    refine l_run 1 [2, 3, 4, 5, 39, 52, 40] [(2, .pointer (some ⟨b2, 0, none⟩)), (3, .pointer (some ⟨b3, 0, none⟩)), (4, .bool false), (5, .int .i64 (k : Int)), (39, .bool true), (52, .bool false), (40, .int .i64 (k : Int))] K (by kernel_rfl) fun a K => ?_
    refine l_val 41 (.int .i64 ((k : Int) + 1)) K (by kernel_rfl) (ex_as (v := .int .i64 (IntKind.wrap .i64 ((k : Int) + 1))) (by kernel_rfl) (congrArg _ (IntWalk.i64_in _ (by omega)))) fun a K => ?_
    refine l_run 1 [2, 3, 4, 5, 39, 52] [(2, .pointer (some ⟨b2, 0, none⟩)), (3, .pointer (some ⟨b3, 0, none⟩)), (4, .bool false), (5, .int .i64 ((k : Int) + 1)), (39, .bool true), (52, .bool false)] K (by kernel_rfl) fun a K => ?_
    refine wpList_nil ?_
    have K := K.cut [2, 3, 4, 5] (L' := [(2, .pointer (some ⟨b2, 0, none⟩)), (3, .pointer (some ⟨b3, 0, none⟩)), (4, .bool false), (5, .int .i64 ((k : Int) + 1))]) (by kernel_rfl)
    exact then_normal ⟨k + 1, by omega, by omega, K, hL⟩
  · refine wp_seq ?_
    refine wp_seq ?_
    -- region 4
    refine wp_region_lit ?_
    refine l_run 2 [2, 3, 4, 5, 35, 36] [(2, .pointer (some ⟨b2, 0, none⟩)), (3, .pointer (some ⟨b3, 0, none⟩)), (4, .bool false), (5, .int .i64 (k : Int)), (35, .int .i64 (k : Int)), (36, .pointer (some ⟨b2, 1, none⟩))] K (by kernel_rfl) fun a K => ?_
    refine l_val 37 (.slice sa N scap) K (by kernel_rfl) (ex_load rfl rfl Try.underlying36 rfl (o2.cell (i := 1) (by omega))) fun a K => ?_
    refine l_run 1 [2, 3, 4, 5, 35, 38] [(2, .pointer (some ⟨b2, 0, none⟩)), (3, .pointer (some ⟨b3, 0, none⟩)), (4, .bool false), (5, .int .i64 (k : Int)), (35, .int .i64 (k : Int)), (38, .int .i64 (N : Int))] K (by kernel_rfl) fun a K => ?_
    refine l_val 39 (.bool false) K (by kernel_rfl) (ex_as (v := .bool (decide ((k : Int) < (N : Int)))) (by kernel_rfl) (congrArg _ (decide_eq_false (by omega)))) fun a K => ?_
    have K := K.cut [2, 3, 4, 5, 39] (L' := [(2, .pointer (some ⟨b2, 0, none⟩)), (3, .pointer (some ⟨b3, 0, none⟩)), (4, .bool false), (5, .int .i64 (k : Int)), (39, .bool false)]) (by kernel_rfl)
    refine wpList_nil ?_
    refine then_normal ?_
    refine v_false K rfl rfl ?_
    refine wp_exit ?_
    refine then_exit ?_
    refine then_exit ?_
    refine block_exit ?_
    refine then_normal ?_
    refine wp_seq ?_
    -- region 8
    refine wp_region_lit ?_
    refine l_run 1 [2, 3, 4, 5, 39, 53] [(2, .pointer (some ⟨b2, 0, none⟩)), (3, .pointer (some ⟨b3, 0, none⟩)), (4, .bool false), (5, .int .i64 (k : Int)), (39, .bool false), (53, .pointer (some ⟨b2, 4, none⟩))] K (by kernel_rfl) fun a K => ?_
    refine l_val 54 (.agg (blk 1024 (dotsC d'))) K (by kernel_rfl) (by rw [← lineC_dots fv (.slice sa N scap) ro late d d' hd]; exact exec_load_obj _ rfl rfl o2 (by omega) (by kernel_rfl) Try.underlying39 rfl) fun a K => ?_
    refine l_run 1 [2, 3, 4, 5, 39, 54, 55] [(2, .pointer (some ⟨b2, 0, none⟩)), (3, .pointer (some ⟨b3, 0, none⟩)), (4, .bool false), (5, .int .i64 (k : Int)), (39, .bool false), (54, .agg (blk 1024 (dotsC d'))), (55, .pointer (some ⟨b3, 4, none⟩))] K (by kernel_rfl) fun a K => ?_
    refine l_val 56 (.agg (blk 1024 (dotsC d'))) K (by kernel_rfl) (by rw [← lineC_dots fv' (.slice sa' N scap') ro late d' d' hdd]; exact exec_load_obj _ rfl rfl o3 (by omega) (by kernel_rfl) Try.underlying39 rfl) fun a K => ?_
    refine l_val 57 (.bool true) K (by kernel_rfl) (exec_eql_self (selfEq_dots d') (by omega) (by kernel_rfl) _ _ rfl rfl rfl _) fun a K => ?_
    refine l_run 1 [2, 3, 4, 5, 39] [(2, .pointer (some ⟨b2, 0, none⟩)), (3, .pointer (some ⟨b3, 0, none⟩)), (4, .bool true), (5, .int .i64 (k : Int)), (39, .bool false)] K (by kernel_rfl) fun a K => ?_
    refine wpList_nil ?_
    refine then_normal ?_
    refine wp_ret ?_
    exact v_ret1 K rfl rfl ⟨rfl, hB⟩
end Go.Proofs.Ytoaecfaackkicaa
