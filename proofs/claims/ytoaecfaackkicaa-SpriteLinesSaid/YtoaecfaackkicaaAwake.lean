/- The walks of a list spoilt and of the statements' own sample line. -/
import Derived.Test.YtoaecfaackkicaaLines
namespace Go.Proofs.Ytoaecfaackkicaa
open Go Go.RowKit

/-- The row that a slice owns, as an object. -/
theorem own_obj {w : World} {base e size n : Nat} {sa : Option Addr} {cap : Nat} {xs : List Value} (h : w.ownsRow base e size (.slice sa n cap) n xs) :
    n = 0 ∨ ∃ g m c, sa = some ⟨g, 0, none⟩ ∧ base ≤ g ∧ ObjAt w g e m c ∧ n * size ≤ m := by
  rcases h.2 with ⟨-, h0⟩ | ⟨g, cap', cur, hv, hg, hh, hl, hm, hs, -⟩
  · exact Or.inl h0
  · cases hv
    refine Or.inr ⟨g, cur.size, arrC cur, rfl, hg, ?_, ?_⟩
    · unfold ObjAt; rw [← arr_blk rfl]; exact hh
    · rw [hs]; exact Nat.mul_le_mul_right _ hl
theorem grownBy_chg {w w' : World} {g : Nat} (h : Chg g w w') : w.grownBy w' (some g) := ⟨h.os, h.tape, h.output, Nat.le_of_eq h.size.symm, fun k _ hk => h.block k (fun e => hk (by rw [e]))⟩
theorem grownBy_trans {a b c : World} {row : Option Nat} (h : a.grownBy b row) (k : b.grownBy c row) : a.grownBy c row :=
  ⟨k.os.trans h.os, k.tape.trans h.tape, k.output.trans h.output, Nat.le_trans h.size k.size, fun i hi hr => (k.block i (Nat.lt_of_lt_of_le hi h.size) hr).trans (h.block i hi hr)⟩
theorem grownBy_refl (w : World) (row : Option Nat) : w.grownBy w row := ⟨rfl, rfl, rfl, Nat.le_refl _, fun _ _ _ => rfl⟩

set_option maxRecDepth 100000 in
theorem spoil_any (B : Nat) (v : Value) (xs : List Int) (w : World) (h : OwnI B w v xs) :
    Calls Try.prog 11 #[v] w fun e w' => e = .returned (.tuple #[]) ∧ w.grownBy w' v.ownBlock := by
  obtain ⟨sa, cap, rfl, hl, hm, -⟩ := h.form
  unfold maxLen at hm
  obtain ⟨n, hn⟩ : ∃ n, n = xs.length := ⟨_, rfl⟩
  have h' : w.ownsRow B 3 1 (.slice sa n cap) n (xs.map iv) := by rw [hn]; exact h
  rw [← hn] at hl ⊢
  clear h
  rcases own_obj h' with h0 | ⟨g, m, c, rfl, hg, og, hnm⟩
  · refine v_enter Try.func11 rfl 12 rfl (by kernel_rfl) fun a K => ?_
    have K := K.cut [0] (L' := [(0, .slice sa n cap)]) (by kernel_rfl)
    show Code.wp _ _ _ _ _
    refine wp_seq ?_
    -- region 0
    refine wp_region_lit ?_
    refine l_run 1 [0, 2] [(0, .slice sa n cap), (2, .int .i64 0)] K (by kernel_rfl) fun a K => ?_
    refine wpList_nil ?_
    refine then_normal ?_
    refine wp_block ?_
    have K := K.cut [0, 2] (L' := [(0, .slice sa n cap), (2, .int .i64 0)]) (by kernel_rfl)
    refine v_for (fun k a W' => Knows 12 [(0, .slice sa n cap), (2, .int .i64 (k : Int))] a ∧ w = W') n 0 (by omega) ⟨K, rfl⟩ ?_
    intro k a w_1 hkk ⟨K, hgr⟩
    by_cases hltk : k < n
    · exact absurd hltk (by omega)
    · refine wp_seq ?_
      refine wp_seq ?_
      -- region 1
      refine wp_region_lit ?_
      refine l_run 3 [0, 2, 3, 5] [(0, .slice sa n cap), (2, .int .i64 (k : Int)), (3, .int .i64 (k : Int)), (5, .int .i64 (n : Int))] K (by kernel_rfl) fun a K => ?_
      refine l_val 6 (.bool false) K (by kernel_rfl) (ex_as (v := .bool (decide ((k : Int) < (n : Int)))) (by kernel_rfl) (congrArg _ (decide_eq_false (by omega)))) fun a K => ?_
      have K := K.cut [0, 2, 6] (L' := [(0, .slice sa n cap), (2, .int .i64 (k : Int)), (6, .bool false)]) (by kernel_rfl)
      refine wpList_nil ?_
      refine then_normal ?_
      refine v_false K rfl rfl ?_
      refine wp_exit ?_
      refine then_exit ?_
      refine then_exit ?_
      refine block_exit ?_
      exact v_end0 K rfl ⟨rfl, by subst hgr; exact grownBy_refl _ _⟩
  · refine v_enter Try.func11 rfl 12 rfl (by kernel_rfl) fun a K => ?_
    have K := K.cut [0] (L' := [(0, .slice (some ⟨g, 0, none⟩) n cap)]) (by kernel_rfl)
    show Code.wp _ _ _ _ _
    refine wp_seq ?_
    -- region 0
    refine wp_region_lit ?_
    refine l_run 1 [0, 2] [(0, .slice (some ⟨g, 0, none⟩) n cap), (2, .int .i64 0)] K (by kernel_rfl) fun a K => ?_
    refine wpList_nil ?_
    refine then_normal ?_
    refine wp_block ?_
    have K := K.cut [0, 2] (L' := [(0, .slice (some ⟨g, 0, none⟩) n cap), (2, .int .i64 0)]) (by kernel_rfl)
    refine v_for (fun k a W' => Knows 12 [(0, .slice (some ⟨g, 0, none⟩) n cap), (2, .int .i64 (k : Int))] a ∧ w.grownBy W' (some g) ∧ ∃ cg, ObjAt W' g 3 m cg) n 0 (by omega) ⟨K, grownBy_refl _ _, ⟨c, og⟩⟩ ?_
    intro k a w_1 hkk ⟨K, hgr, ⟨cg, og⟩⟩
    by_cases hltk : k < n
    · refine wp_seq ?_
      refine wp_seq ?_
      -- region 1
      refine wp_region_lit ?_
      refine l_run 3 [0, 2, 3, 5] [(0, .slice (some ⟨g, 0, none⟩) n cap), (2, .int .i64 (k : Int)), (3, .int .i64 (k : Int)), (5, .int .i64 (n : Int))] K (by kernel_rfl) fun a K => ?_
      refine l_val 6 (.bool true) K (by kernel_rfl) (ex_as (v := .bool (decide ((k : Int) < (n : Int)))) (by kernel_rfl) (congrArg _ (decide_eq_true (by omega)))) fun a K => ?_
      have K := K.cut [0, 2, 6] (L' := [(0, .slice (some ⟨g, 0, none⟩) n cap), (2, .int .i64 (k : Int)), (6, .bool true)]) (by kernel_rfl)
      refine wpList_nil ?_
      refine then_normal ?_
      refine v_true K rfl rfl ?_
      refine wp_skip ?_
      refine then_normal ?_
      refine wp_seq ?_
      refine wp_block ?_
      -- region 3
      refine wp_region_lit ?_
      refine l_run 2 [0, 2, 6, 9, 10] [(0, .slice (some ⟨g, 0, none⟩) n cap), (2, .int .i64 (k : Int)), (6, .bool true), (9, .slice (some ⟨g, 0, none⟩) n cap), (10, .int .i64 (k : Int))] K (by kernel_rfl) fun a K => ?_
      refine l_val 11 (.pointer (some ⟨g, k, none⟩)) K (by kernel_rfl) (ex_idx_slice' (s := 1) rfl Try.underlying35 (by kernel_rfl) rfl rfl (by omega) (by omega) (by omega)) fun a K => ?_
      refine l_store K (by kernel_rfl) rfl rfl (show envL _ _ = .int .i64 (-7777) from rfl) (by kernel_rfl) rfl og (by omega) ?_
      intro w_2 hc og
      have hz_1 := hc.size
      have K := K.cut [0, 2, 6] (L' := [(0, .slice (some ⟨g, 0, none⟩) n cap), (2, .int .i64 (k : Int)), (6, .bool true)]) (by kernel_rfl)
      refine wpList_nil ?_
      refine block_normal ?_
      refine then_normal ?_
      -- region 2
      refine wp_region_lit ?_
      refine l_run 1 [0, 2, 6, 7] [(0, .slice (some ⟨g, 0, none⟩) n cap), (2, .int .i64 (k : Int)), (6, .bool true), (7, .int .i64 (k : Int))] K (by kernel_rfl) fun a K => ?_
      refine l_val 8 (.int .i64 ((k : Int) + 1)) K (by kernel_rfl) (ex_as (v := .int .i64 (IntKind.wrap .i64 ((k : Int) + 1))) (by kernel_rfl) (congrArg _ (IntWalk.i64_in _ (by omega)))) fun a K => ?_
      refine l_run 1 [0, 2, 6] [(0, .slice (some ⟨g, 0, none⟩) n cap), (2, .int .i64 ((k : Int) + 1)), (6, .bool true)] K (by kernel_rfl) fun a K => ?_
      refine wpList_nil ?_
      have K := K.cut [0, 2] (L' := [(0, .slice (some ⟨g, 0, none⟩) n cap), (2, .int .i64 ((k : Int) + 1))]) (by kernel_rfl)
      exact then_normal ⟨k + 1, by omega, by omega, K, grownBy_trans hgr (grownBy_chg hc), ⟨_, og⟩⟩
    · refine wp_seq ?_
      refine wp_seq ?_
      -- region 1
      refine wp_region_lit ?_
      refine l_run 3 [0, 2, 3, 5] [(0, .slice (some ⟨g, 0, none⟩) n cap), (2, .int .i64 (k : Int)), (3, .int .i64 (k : Int)), (5, .int .i64 (n : Int))] K (by kernel_rfl) fun a K => ?_
      refine l_val 6 (.bool false) K (by kernel_rfl) (ex_as (v := .bool (decide ((k : Int) < (n : Int)))) (by kernel_rfl) (congrArg _ (decide_eq_false (by omega)))) fun a K => ?_
      have K := K.cut [0, 2, 6] (L' := [(0, .slice (some ⟨g, 0, none⟩) n cap), (2, .int .i64 (k : Int)), (6, .bool false)]) (by kernel_rfl)
      refine wpList_nil ?_
      refine then_normal ?_
      refine v_false K rfl rfl ?_
      refine wp_exit ?_
      refine then_exit ?_
      refine then_exit ?_
      refine block_exit ?_
      exact v_end0 K rfl ⟨rfl, hgr⟩

/-- The sample's memories. -/
def oaK (k : Nat) : Nat → Int := fun j => if j % 4 = 1 ∧ j < 4 * k then 240 else 0
def M0 : Mem := { vr := fun i => if i = 0 then 128 else 0, oa := fun i => if i = 0 then 5 else if i = 1 then 7 else oaK 128 i, cg := fun i => if i = 129 then 9 else 0, r1 := 0 }
theorem awF : (ints (M0.found 0 7)).length = 1 := by decide +kernel
theorem awS : (M0.slivers 0 7).length = 1 := by decide +kernel
theorem awD5 : M0.pdots 0 7 5 = ⟨true, 0, 129, 9⟩ := by kernel_rfl
theorem awD4 : (M0.pdots 0 7 4).see = false := by kernel_rfl
theorem oaK_step (k : Nat) : ∀ i, oaK (k + 1) i = if i = 4 * k + 1 then oaK (k + 1) (4 * k + 1) else oaK k i := by
  intro i
  unfold oaK
  by_cases e : i = 4 * k + 1
  · subst e; rw [if_pos rfl]
  · rw [if_neg e]
    by_cases h : i % 4 = 1 ∧ i < 4 * k
    · rw [if_pos h, if_pos ⟨h.1, by omega⟩]
    · rw [if_neg h, if_neg (by omega)]
theorem oaK_at (k : Nat) : oaK (k + 1) (4 * k + 1) = 240 := by unfold oaK; rw [if_pos (by omega)]
theorem oaK_zero : oaK 0 = fun _ => 0 := by funext i; unfold oaK; rw [if_neg (by omega)]
theorem aw_mem : ∀ i, i < 33568 → upd (upd (upd (upd (vidC (fun _ => 0) (oaK 128) (fun _ => 0)) 32768 (.int .u8 5)) 32769 (.int .u8 7)) 0 (.int .u16 128)) 33441 (.int .u16 9) i = vidC M0.vr M0.oa M0.cg i := by
  intro i hi
  unfold upd vidC M0
  by_cases h1 : i = 33441
  · subst h1; rfl
  · rw [if_neg h1]
    by_cases h2 : i = 0
    · subst h2; rfl
    · rw [if_neg h2]
      by_cases h3 : i = 32769
      · subst h3; rfl
      · rw [if_neg h3]
        by_cases h4 : i = 32768
        · subst h4; rfl
        · rw [if_neg h4]
          by_cases h5 : i < 32768
          · rw [if_pos h5, if_pos h5]; simp only; rw [if_neg h2]
          · rw [if_neg h5, if_neg h5]
            by_cases h6 : i < 33312
            · rw [if_pos h6, if_pos h6]; simp only; rw [if_neg (by omega), if_neg (by omega)]
            · rw [if_neg h6, if_neg h6]; simp only; rw [if_neg (by omega)]
def zscr : Nat → Value := fun i => if i < 64 then .int .u8 0 else if i < 72 then .int .u16 0 else if i < 80 then .int .i16 0 else .int .u16 0
theorem Try.infoScr : Try.prog.info? 32 = some Try.t32 := by kernel_rfl
theorem Try.lenScr : (zcells Try.t32).length = 81 := by kernel_rfl
theorem Try.chkScr : chkAll zscr (zcells Try.t32) 0 = true := by kernel_rfl
theorem Try.builtScr : Try.prog.built 32 [] = some (blk 81 zscr) := by
  rw [built_blk Try.infoScr Try.underlying32 (places := [(0, 64), (64, 4), (68, 4), (72, 6), (78, 1), (79, 1), (80, 1)]) (by kernel_rfl) Try.lenScr (by decide) Try.chkScr]
  rfl
theorem lineC_at (fv sv : Value) (ro late : Bool) (d : Nat → Dt) (x j : Nat) (hj : j < 4) : lineC fv sv ro late d (4 + x * 4 + j) = dtc (d x) j := by
  unfold lineC
  rw [if_neg (by omega), if_neg (by omega), if_neg (by omega), if_neg (by omega), show (4 + x * 4 + j - 4) / 4 = x by omega, show (4 + x * 4 + j - 4) % 4 = j by omega]
set_option maxRecDepth 100000 in
theorem awake_any (w : World) : Calls Try.prog 12 #[] w fun e w' => e = .returned (.bool true) ∧ Below w.heap.size w w' := by
  have hB : Below w.heap.size w w := Below.refl _ _
  refine v_enter Try.func12 rfl 61 rfl (by kernel_rfl) fun a K => ?_
  have K := K.cut [] (L' := []) (by kernel_rfl)
  show Code.wp _ _ _ _ _
  refine wp_seq ?_
  -- region 0
  refine wp_region_lit ?_
  refine l_run 1 [0] [(0, .bool false)] K (by kernel_rfl) fun a K => ?_
  refine wpList_nil ?_
  refine then_normal ?_
  refine wp_seq ?_
  -- region 1
  refine wp_region_lit ?_
  refine l_val 4 (.agg (blk 33568 (vidC (fun _ => 0) (fun _ => 0) (fun _ => 0)))) K (by kernel_rfl) (ex_build (ps := []) rfl (by simp) Try.builtVid) fun a K => ?_
  refine l_box 5 33568 (vidC (fun _ => 0) (fun _ => 0) (fun _ => 0)) K (by kernel_rfl) rfl (show envL _ _ = .agg (blk 33568 (vidC (fun _ => 0) (fun _ => 0) (fun _ => 0))) from rfl) (cells_agg _) ?_
  intro bv w_1 hbn hb ov a K
  have hz_1 := hb.size
  replace hB := hB.trans (hb.mono hB.size)
  have lt_bv := ov.lt
  have lz_bv := ov.lt
  replace ov : ObjAt w_1 bv 49 33568 (vidC (fun _ => 0) (oaK 0) (fun _ => 0)) := by rw [oaK_zero]; exact ov
  refine l_run 1 [0, 1] [(0, .bool false), (1, .pointer (some ⟨bv, 0, none⟩))] K (by kernel_rfl) fun a K => ?_
  refine wpList_nil ?_
  refine then_normal ?_
  refine wp_seq ?_
  refine wp_seq ?_
  -- region 2
  refine wp_region_lit ?_
  refine l_run 1 [0, 1, 2] [(0, .bool false), (1, .pointer (some ⟨bv, 0, none⟩)), (2, .int .i64 0)] K (by kernel_rfl) fun a K => ?_
  refine wpList_nil ?_
  refine then_normal ?_
  refine wp_block ?_
  have lt_bv' := hbn
  have K := K.cut [0, 1, 2] (L' := [(0, .bool false), (1, .pointer (some ⟨bv, 0, none⟩)), (2, .int .i64 0)]) (by kernel_rfl)
  refine v_for (fun k a W' => Knows 61 [(0, .bool false), (1, .pointer (some ⟨bv, 0, none⟩)), (2, .int .i64 (k : Int))] a ∧ ObjAt W' bv 49 33568 (vidC (fun _ => 0) (oaK k) (fun _ => 0)) ∧ Below w.heap.size w W' ∧ bv < W'.heap.size) 128 0 (by omega) ⟨K, ov, hB, ov.lt⟩ ?_
  intro k a w_2 hkk ⟨K, ov, hB, lt_bv⟩
  have lz_bv := ov.lt
  by_cases hltk : k < 128
  · refine wp_seq ?_
    refine wp_seq ?_
    -- region 3
    refine wp_region_lit ?_
    refine l_run 1 [0, 1, 2, 6] [(0, .bool false), (1, .pointer (some ⟨bv, 0, none⟩)), (2, .int .i64 (k : Int)), (6, .int .i64 (k : Int))] K (by kernel_rfl) fun a K => ?_
    refine l_val 7 (.bool true) K (by kernel_rfl) (ex_as (v := .bool (decide ((k : Int) < 128))) (by kernel_rfl) (congrArg _ (decide_eq_true (by omega)))) fun a K => ?_
    have K := K.cut [0, 1, 2, 7] (L' := [(0, .bool false), (1, .pointer (some ⟨bv, 0, none⟩)), (2, .int .i64 (k : Int)), (7, .bool true)]) (by kernel_rfl)
    refine wpList_nil ?_
    refine then_normal ?_
    refine v_true K rfl rfl ?_
    refine wp_skip ?_
    refine then_normal ?_
    refine wp_seq ?_
    refine wp_block ?_
    -- region 5
    refine wp_region_lit ?_
    refine l_run 2 [0, 1, 2, 7, 10, 11] [(0, .bool false), (1, .pointer (some ⟨bv, 0, none⟩)), (2, .int .i64 (k : Int)), (7, .bool true), (10, .pointer (some ⟨bv, 0, none⟩)), (11, .int .i64 (k : Int))] K (by kernel_rfl) fun a K => ?_
    refine l_val 12 (.int .i64 (4 * (k : Int))) K (by kernel_rfl) (ex_as (v := .int .i64 (IntKind.wrap .i64 (4 * (k : Int)))) (by kernel_rfl) (congrArg _ (IntWalk.i64_in _ (by omega)))) fun a K => ?_
    refine l_val 13 (.int .i64 (4 * (k : Int) + 1)) K (by kernel_rfl) (ex_as (v := .int .i64 (IntKind.wrap .i64 (4 * (k : Int) + 1))) (by kernel_rfl) (congrArg _ (IntWalk.i64_in _ (by omega)))) fun a K => ?_
    refine l_run 2 [0, 1, 2, 7, 13, 15] [(0, .bool false), (1, .pointer (some ⟨bv, 0, none⟩)), (2, .int .i64 (k : Int)), (7, .bool true), (13, .int .i64 (4 * (k : Int) + 1)), (15, .pointer (some ⟨bv, 32768, none⟩))] K (by kernel_rfl) fun a K => ?_
    refine l_val 16 (.pointer (some ⟨bv, 32768 + (4 * k + 1), none⟩)) K (by kernel_rfl) (ex_idx_arr' (s := 1) rfl Try.underlying46 (by kernel_rfl) rfl rfl (by omega) (by omega) (by omega)) fun a K => ?_
    refine l_store K (by kernel_rfl) rfl rfl (show envL _ _ = .int .u8 240 from rfl) (by kernel_rfl) rfl ov (by omega) ?_
    intro w_3 hc ov
    have hz_2 := hc.size
    replace hB := below_chg hB hc (by omega)
    replace lt_bv := Nat.lt_of_lt_of_eq lt_bv hc.size.symm
    replace ov := (show ObjAt _ bv 49 33568 (vidC (fun _ => 0) (oaK (k + 1)) (fun _ => 0)) by have h := vidC_oa (fun _ => 0) (oaK k) (oaK (k + 1)) (fun _ => 0) (4 * k + 1) (by omega) (oaK_step k); rw [oaK_at] at h; rw [← h]; exact ov)
    have K := K.cut [0, 1, 2, 7] (L' := [(0, .bool false), (1, .pointer (some ⟨bv, 0, none⟩)), (2, .int .i64 (k : Int)), (7, .bool true)]) (by kernel_rfl)
    refine wpList_nil ?_
    refine block_normal ?_
    refine then_normal ?_
    -- region 4
    refine wp_region_lit ?_
    refine l_run 1 [0, 1, 2, 7, 8] [(0, .bool false), (1, .pointer (some ⟨bv, 0, none⟩)), (2, .int .i64 (k : Int)), (7, .bool true), (8, .int .i64 (k : Int))] K (by kernel_rfl) fun a K => ?_
    refine l_val 9 (.int .i64 ((k : Int) + 1)) K (by kernel_rfl) (ex_as (v := .int .i64 (IntKind.wrap .i64 ((k : Int) + 1))) (by kernel_rfl) (congrArg _ (IntWalk.i64_in _ (by omega)))) fun a K => ?_
    refine l_run 1 [0, 1, 2, 7] [(0, .bool false), (1, .pointer (some ⟨bv, 0, none⟩)), (2, .int .i64 ((k : Int) + 1)), (7, .bool true)] K (by kernel_rfl) fun a K => ?_
    refine wpList_nil ?_
    have K := K.cut [0, 1, 2] (L' := [(0, .bool false), (1, .pointer (some ⟨bv, 0, none⟩)), (2, .int .i64 ((k : Int) + 1))]) (by kernel_rfl)
    exact then_normal ⟨k + 1, by omega, by omega, K, ov, hB, lt_bv⟩
  · rw [show k = 128 by omega] at ov
    refine wp_seq ?_
    refine wp_seq ?_
    -- region 3
    refine wp_region_lit ?_
    refine l_run 1 [0, 1, 2, 6] [(0, .bool false), (1, .pointer (some ⟨bv, 0, none⟩)), (2, .int .i64 (k : Int)), (6, .int .i64 (k : Int))] K (by kernel_rfl) fun a K => ?_
    refine l_val 7 (.bool false) K (by kernel_rfl) (ex_as (v := .bool (decide ((k : Int) < 128))) (by kernel_rfl) (congrArg _ (decide_eq_false (by omega)))) fun a K => ?_
    have K := K.cut [0, 1, 2, 7] (L' := [(0, .bool false), (1, .pointer (some ⟨bv, 0, none⟩)), (2, .int .i64 (k : Int)), (7, .bool false)]) (by kernel_rfl)
    refine wpList_nil ?_
    refine then_normal ?_
    refine v_false K rfl rfl ?_
    refine wp_exit ?_
    refine then_exit ?_
    refine then_exit ?_
    refine block_exit ?_
    refine then_normal ?_
    refine wp_seq ?_
    -- region 6
    refine wp_region_lit ?_
    refine l_run 4 [0, 1, 2, 7, 20] [(0, .bool false), (1, .pointer (some ⟨bv, 0, none⟩)), (2, .int .i64 (k : Int)), (7, .bool false), (20, .pointer (some ⟨bv, 32768, none⟩))] K (by kernel_rfl) fun a K => ?_
    refine l_store K (by kernel_rfl) rfl rfl (show envL _ _ = .int .u8 5 from rfl) (by kernel_rfl) rfl ov (by omega) ?_
    intro w_4 hc ov
    have hz_3 := hc.size
    replace hB := below_chg hB hc (by omega)
    replace lt_bv := Nat.lt_of_lt_of_eq lt_bv hc.size.symm
    have K := K.cut [0, 1, 2, 7] (L' := [(0, .bool false), (1, .pointer (some ⟨bv, 0, none⟩)), (2, .int .i64 (k : Int)), (7, .bool false)]) (by kernel_rfl)
    refine wpList_nil ?_
    refine then_normal ?_
    refine wp_seq ?_
    -- region 7
    refine wp_region_lit ?_
    refine l_run 4 [0, 1, 2, 7, 24] [(0, .bool false), (1, .pointer (some ⟨bv, 0, none⟩)), (2, .int .i64 (k : Int)), (7, .bool false), (24, .pointer (some ⟨bv, 32769, none⟩))] K (by kernel_rfl) fun a K => ?_
    refine l_store K (by kernel_rfl) rfl rfl (show envL _ _ = .int .u8 7 from rfl) (by kernel_rfl) rfl ov (by omega) ?_
    intro w_5 hc ov
    have hz_4 := hc.size
    replace hB := below_chg hB hc (by omega)
    replace lt_bv := Nat.lt_of_lt_of_eq lt_bv hc.size.symm
    have K := K.cut [0, 1, 2, 7] (L' := [(0, .bool false), (1, .pointer (some ⟨bv, 0, none⟩)), (2, .int .i64 (k : Int)), (7, .bool false)]) (by kernel_rfl)
    refine wpList_nil ?_
    refine then_normal ?_
    refine wp_seq ?_
    -- region 8
    refine wp_region_lit ?_
    refine l_run 4 [0, 1, 2, 7, 28] [(0, .bool false), (1, .pointer (some ⟨bv, 0, none⟩)), (2, .int .i64 (k : Int)), (7, .bool false), (28, .pointer (some ⟨bv, 0, none⟩))] K (by kernel_rfl) fun a K => ?_
    refine l_store K (by kernel_rfl) rfl rfl (show envL _ _ = .int .u16 128 from rfl) (by kernel_rfl) rfl ov (by omega) ?_
    intro w_6 hc ov
    have hz_5 := hc.size
    replace hB := below_chg hB hc (by omega)
    replace lt_bv := Nat.lt_of_lt_of_eq lt_bv hc.size.symm
    have K := K.cut [0, 1, 2, 7] (L' := [(0, .bool false), (1, .pointer (some ⟨bv, 0, none⟩)), (2, .int .i64 (k : Int)), (7, .bool false)]) (by kernel_rfl)
    refine wpList_nil ?_
    refine then_normal ?_
    refine wp_seq ?_
    -- region 9
    refine wp_region_lit ?_
    refine l_run 4 [0, 1, 2, 7, 32] [(0, .bool false), (1, .pointer (some ⟨bv, 0, none⟩)), (2, .int .i64 (k : Int)), (7, .bool false), (32, .pointer (some ⟨bv, 33441, none⟩))] K (by kernel_rfl) fun a K => ?_
    refine l_store K (by kernel_rfl) rfl rfl (show envL _ _ = .int .u16 9 from rfl) (by kernel_rfl) rfl ov (by omega) ?_
    intro w_7 hc ov
    have hz_6 := hc.size
    replace hB := below_chg hB hc (by omega)
    replace lt_bv := Nat.lt_of_lt_of_eq lt_bv hc.size.symm
    replace ov := ov.congr aw_mem
    have hvid := VidAt.of_obj ov (fun i => by unfold M0; simp only; split <;> omega) (fun i => by unfold M0 oaK; simp only; repeat' split <;> omega)
    have K := K.cut [0, 1, 2, 7] (L' := [(0, .bool false), (1, .pointer (some ⟨bv, 0, none⟩)), (2, .int .i64 (k : Int)), (7, .bool false)]) (by kernel_rfl)
    refine wpList_nil ?_
    refine then_normal ?_
    refine wp_seq ?_
    -- region 10
    refine wp_region_lit ?_
    refine l_run 1 [0, 1, 2, 7, 33] [(0, .bool false), (1, .pointer (some ⟨bv, 0, none⟩)), (2, .int .i64 (k : Int)), (7, .bool false), (33, .pointer (some ⟨bv, 0, none⟩))] K (by kernel_rfl) fun a K => ?_
    refine l_val 34 (.agg (blk 81 zscr)) K (by kernel_rfl) (ex_build (ps := []) rfl (by simp) Try.builtScr) fun a K => ?_
    refine l_box 35 81 zscr K (by kernel_rfl) rfl (show envL _ _ = .agg (blk 81 zscr) from rfl) (cells_agg _) ?_
    intro bs w_8 hbn hb os a K
    have hz_7 := hb.size
    replace ov := ov.below hb ov.lt
    replace hB := hB.trans (hb.mono hB.size)
    replace lt_bv := Nat.lt_of_lt_of_le lt_bv hb.size
    replace hvid := hvid.below hb hvid.lt
    have lt_bs := os.lt
    have lz_bs := os.lt
    have hr1 : w_8.cell? ⟨bs, 0 + 1, none⟩ = some (.int .u8 M0.r1) := os.cell (i := 0 + 1) (by omega)
    refine l_call 36 K (by kernel_rfl) (ex_pure (by kernel_rfl) _) (pline_any bv bs 0 0 7 M0 (by omega) (by omega) (by omega) _ hvid (fun i => by unfold M0; simp only; split <;> omega) hr1 (by decide) (by decide)) ?_
    rintro e w_9 ⟨fv, sv, rfl, hfo, hso, hb⟩
    obtain ⟨fa, fcap, rfl, -, -, -⟩ := hfo.form
    obtain ⟨sa, scap, rfl, -, -, -⟩ := hso.form
    rw [awF, awS]
    have hz_8 := hb.size
    replace ov := ov.below hb ov.lt
    replace hB := hB.trans (hb.mono hB.size)
    replace lt_bv := Nat.lt_of_lt_of_le lt_bv hb.size
    replace hvid := hvid.below hb hvid.lt
    replace os := os.below hb os.lt
    replace lt_bs := Nat.lt_of_lt_of_le lt_bs hb.size
    refine ⟨_, rfl, fun a K => ?_⟩
    refine l_alloc 3 1028 zline K (by kernel_rfl) rfl (Try.zeroLine _) rfl ?_
    intro b3 w_10 hbn hb o3 a K
    have hz_9 := hb.size
    replace ov := ov.below hb ov.lt
    replace hB := hB.trans (hb.mono hB.size)
    replace lt_bv := Nat.lt_of_lt_of_le lt_bv hb.size
    replace hvid := hvid.below hb hvid.lt
    replace os := os.below hb os.lt
    replace lt_bs := Nat.lt_of_lt_of_le lt_bs hb.size
    have lt_b3 := o3.lt
    have lz_b3 := o3.lt
    refine l_store_full K (by kernel_rfl) rfl rfl (show envL _ _ = .agg (blk 1028 (lineC (.slice fa 1 fcap) (.slice sa 1 scap) (M0.over 0 7) (M0.late 0 7) (M0.pdots 0 7))) from rfl) (by kernel_rfl) (fun i _ => lineC_one _ _ rfl rfl _ _ _ _) o3 ?_
    intro w_11 hc o3
    have hz_10 := hc.size
    replace ov := hc.obj (by omega) ov
    replace hB := below_chg hB hc (by omega)
    replace lt_bv := Nat.lt_of_lt_of_eq lt_bv hc.size.symm
    replace hvid := hvid.but hc.but (by omega)
    replace os := hc.obj (by omega) os
    replace lt_bs := Nat.lt_of_lt_of_eq lt_bs hc.size.symm
    replace lt_b3 := Nat.lt_of_lt_of_eq lt_b3 hc.size.symm
    have K := K.cut [0, 1, 2, 7, 3] (L' := [(0, .bool false), (1, .pointer (some ⟨bv, 0, none⟩)), (2, .int .i64 (k : Int)), (7, .bool false), (3, .pointer (some ⟨b3, 0, none⟩))]) (by kernel_rfl)
    refine wpList_nil ?_
    refine then_normal ?_
    refine wp_seq ?_
    -- region 11
    refine wp_region_lit ?_
    refine l_run 1 [0, 1, 2, 7, 3, 37] [(0, .bool false), (1, .pointer (some ⟨bv, 0, none⟩)), (2, .int .i64 (k : Int)), (7, .bool false), (3, .pointer (some ⟨b3, 0, none⟩)), (37, .pointer (some ⟨b3, 0, none⟩))] K (by kernel_rfl) fun a K => ?_
    refine l_val 38 (.slice fa 1 fcap) K (by kernel_rfl) (ex_load rfl rfl Try.underlying35 rfl (o3.cell (i := 0) (by omega))) fun a K => ?_
    refine l_run 4 [0, 1, 2, 7, 3, 41, 42] [(0, .bool false), (1, .pointer (some ⟨bv, 0, none⟩)), (2, .int .i64 (k : Int)), (7, .bool false), (3, .pointer (some ⟨b3, 0, none⟩)), (41, .bool true), (42, .pointer (some ⟨b3, 1, none⟩))] K (by kernel_rfl) fun a K => ?_
    refine l_val 43 (.slice sa 1 scap) K (by kernel_rfl) (ex_load rfl rfl Try.underlying36 rfl (o3.cell (i := 1) (by omega))) fun a K => ?_
    refine l_run 6 [0, 1, 2, 7, 3, 47, 49] [(0, .bool false), (1, .pointer (some ⟨bv, 0, none⟩)), (2, .int .i64 (k : Int)), (7, .bool false), (3, .pointer (some ⟨b3, 0, none⟩)), (47, .bool true), (49, .pointer (some ⟨b3, 24, none⟩))] K (by kernel_rfl) fun a K => ?_
    refine l_val 50 (.agg #[.bool true, .int .u8 0, .int .u8 129, .int .u16 9]) K (by kernel_rfl) (ex_load_arr (cs := #[.bool true, .int .u8 0, .int .u8 129, .int .u16 9]) (m := 4) _ rfl rfl o3 (by omega) (by kernel_rfl) Try.underlying38 rfl rfl (fun i hi => (lineC_at _ _ _ _ _ 5 i hi).trans (by rw [awD5]; match i, hi with | 0, _ => rfl | 1, _ => rfl | 2, _ => rfl | 3, _ => rfl))) fun a K => ?_
    refine l_val 51 (.agg #[.bool true, .int .u8 0, .int .u8 129, .int .u16 9]) K (by kernel_rfl) (ex_build (ps := [(0, .bool true), (2, .int .u8 129), (3, .int .u16 9)]) rfl (by simp [envL]) (by kernel_rfl)) fun a K => ?_
    refine l_val 52 (.bool true) K (by kernel_rfl) (exec_eql_self (selfEq_dot ⟨true, 0, 129, 9⟩) (by omega) (by kernel_rfl) _ _ rfl rfl rfl _) fun a K => ?_
    refine l_run 5 [0, 1, 2, 7, 3, 54, 57] [(0, .bool false), (1, .pointer (some ⟨bv, 0, none⟩)), (2, .int .i64 (k : Int)), (7, .bool false), (3, .pointer (some ⟨b3, 0, none⟩)), (54, .bool true), (57, .pointer (some ⟨b3, 20, none⟩))] K (by kernel_rfl) fun a K => ?_
    refine l_val 58 (.bool false) K (by kernel_rfl) (ex_load rfl rfl Try.underlying4 rfl ((o3.cell (i := 20) (by omega)).trans (congrArg some ((lineC_at _ _ _ _ _ 4 0 (by omega)).trans (congrArg Value.bool awD4))))) fun a K => ?_
    refine l_run 3 [0, 1, 2, 7, 3] [(0, .bool true), (1, .pointer (some ⟨bv, 0, none⟩)), (2, .int .i64 (k : Int)), (7, .bool false), (3, .pointer (some ⟨b3, 0, none⟩))] K (by kernel_rfl) fun a K => ?_
    refine wpList_nil ?_
    refine then_normal ?_
    refine wp_ret ?_
    exact v_ret1 K rfl rfl ⟨rfl, hB⟩
end Go.Proofs.Ytoaecfaackkicaa
