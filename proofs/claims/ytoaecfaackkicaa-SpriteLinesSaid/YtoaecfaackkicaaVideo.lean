/- The walk of the memories that a statement is given: words, sprites' bytes, colours. -/
import Derived.Test.YtoaecfaackkicaaLeaf
import Derived.Test.YtoaecfaackkicaaEq
import Derived.Test.YtoaecfaackkicaaExec
namespace Go.Proofs.Ytoaecfaackkicaa
open Go Go.RowKit

/-- A slice that came in, of numbers of kind k. -/
def SlIn (w : World) (k : IntKind) (v : Value) (zs : List Int) : Prop :=
  ∃ a cap, v = .slice a zs.length cap ∧ zs.length ≤ 9223372036854775807 ∧ (zs.length = 0 ∨ ∃ b off, a = some ⟨b, off, none⟩ ∧ b < w.heap.size ∧ ∀ j, j < zs.length → w.cell? ⟨b, off + j, none⟩ = some (.int k (zs.getD j 0)))
theorem SlIn.below {w w' : World} {k : IntKind} {v : Value} {zs : List Int} (h : SlIn w k v zs) (hb : Below w.heap.size w w') : SlIn w' k v zs := by
  obtain ⟨a, cap, hv, hl, hc⟩ := h
  refine ⟨a, cap, hv, hl, hc.imp id ?_⟩
  rintro ⟨b, off, ha, hlt, hc⟩
  exact ⟨b, off, ha, Nat.lt_of_lt_of_le hlt hb.size, fun j hj => (hb.cell (p := ⟨b, off + j, none⟩) hlt).trans (hc j hj)⟩

def vidC (vr oa cg : Nat → Int) : Nat → Value := fun i => if i < 32768 then .int .u16 (vr i) else if i < 33312 then .int .u8 (oa (i - 32768)) else .int .u16 (cg (i - 33312))
theorem Try.infoVid : Try.prog.info? 49 = some Try.t49 := by kernel_rfl
theorem Try.lenVid : (zcells Try.t49).length = 33568 := by kernel_rfl
theorem Try.chkVid : chkAll (vidC (fun _ => 0) (fun _ => 0) (fun _ => 0)) (zcells Try.t49) 0 = true := by kernel_rfl
theorem Try.zeroVid (w : World) : (zeroValue 49).run Try.prog w = .ok (.agg (blk 33568 (vidC (fun _ => 0) (fun _ => 0) (fun _ => 0)))) w := zero_run Try.infoVid Try.lenVid (by decide) Try.chkVid w
theorem Try.sizeVid : (Try.prog.info? 49).map (·.size) = some 33568 := by kernel_rfl

/-- The n-th number of a memory that repeats a list, a little turned each time. -/
def vrOf (zs : List Int) (i : Nat) : Int := if zs.length = 0 then 0 else (zs.getD (i % zs.length) 0 + ((i / zs.length : Nat) : Int)) % 65536
def oaOf (zs : List Int) (i : Nat) : Int := if zs.length = 0 then 0 else (zs.getD (i % zs.length) 0 + ((i / zs.length : Nat) : Int)) % 256
def cgOf (zs : List Int) (i : Nat) : Int := if zs.length = 0 then 0 else (zs.getD (i % zs.length) 0 + ((i / zs.length : Nat) : Int)) % 65536 % 32768
theorem vrOf_bd (zs : List Int) (i : Nat) : 0 ≤ vrOf zs i ∧ vrOf zs i ≤ 65535 := by unfold vrOf; split <;> omega
theorem oaOf_bd (zs : List Int) (i : Nat) : 0 ≤ oaOf zs i ∧ oaOf zs i ≤ 255 := by unfold oaOf; split <;> omega
theorem cgOf_bd (zs : List Int) (i : Nat) : 0 ≤ cgOf zs i ∧ cgOf zs i ≤ 32767 := by unfold cgOf; split <;> omega
theorem vidC_vr (vr vr' oa cg : Nat → Int) (j : Nat) (hj : j < 32768) (h : ∀ i, vr' i = if i = j then vr' j else vr i) : upd (vidC vr oa cg) j (.int .u16 (vr' j)) = vidC vr' oa cg := by
  funext i
  unfold upd vidC
  by_cases e : i = j
  · subst e; rw [if_pos rfl, if_pos hj]
  · rw [if_neg e]; have := h i; rw [if_neg e] at this; rw [this]
theorem vidC_oa (vr oa oa' cg : Nat → Int) (j : Nat) (hj : j < 544) (h : ∀ i, oa' i = if i = j then oa' j else oa i) : upd (vidC vr oa cg) (32768 + j) (.int .u8 (oa' j)) = vidC vr oa' cg := by
  funext i
  unfold upd vidC
  by_cases e : i = 32768 + j
  · subst e; rw [if_pos rfl, if_neg (by omega), if_pos (by omega), show 32768 + j - 32768 = j by omega]
  · rw [if_neg e]; have := h (i - 32768)
    by_cases h1 : i < 32768
    · rw [if_pos h1, if_pos h1]
    · rw [if_neg (by omega)] at this; rw [this]
theorem vidC_cg (vr oa cg cg' : Nat → Int) (j : Nat) (h : ∀ i, cg' i = if i = j then cg' j else cg i) : upd (vidC vr oa cg) (33312 + j) (.int .u16 (cg' j)) = vidC vr oa cg' := by
  funext i
  unfold upd vidC
  by_cases e : i = 33312 + j
  · subst e; rw [if_pos rfl, if_neg (by omega), if_neg (by omega), show 33312 + j - 33312 = j by omega]
  · rw [if_neg e]; have := h (i - 33312)
    by_cases h1 : i < 32768
    · rw [if_pos h1, if_pos h1]
    · rw [if_neg h1, if_neg h1]
      by_cases h2 : i < 33312
      · rw [if_pos h2, if_pos h2]
      · rw [if_neg (by omega)] at this; rw [this]
def upTo (f : Nat → Int) (k : Nat) : Nat → Int := fun j => if j < k then f j else 0
theorem upTo_step (f : Nat → Int) (k : Nat) : ∀ i, upTo f (k + 1) i = if i = k then upTo f (k + 1) k else upTo f k i := by
  intro i
  unfold upTo
  by_cases e : i = k
  · subst e; rw [if_pos rfl]
  · rw [if_neg e]
    by_cases h : i < k
    · rw [if_pos h, if_pos (by omega)]
    · rw [if_neg h, if_neg (by omega)]
theorem upTo_at (f : Nat → Int) (k : Nat) : upTo f (k + 1) k = f k := by unfold upTo; rw [if_pos (by omega)]
theorem upTo_zero (f : Nat → Int) : upTo f 0 = fun _ => 0 := by funext j; unfold upTo; rw [if_neg (by omega)]

/-- A memory in its block. -/
theorem VidAt.of_obj {w : World} {b : Nat} {vr oa cg : Nat → Int} (h : ObjAt w b 49 33568 (vidC vr oa cg)) (hv : ∀ i, 0 ≤ vr i ∧ vr i ≤ 65535) (ho : ∀ i, 0 ≤ oa i ∧ oa i ≤ 255) : VidAt w b vr oa cg where
  vram := fun i hi => by rw [h.cell (by omega)]; unfold vidC; rw [if_pos hi]
  oam := fun i hi => by rw [h.cell (by omega)]; unfold vidC; rw [if_neg (by omega), if_pos (by omega), show 32768 + i - 32768 = i by omega]
  cg := fun i hi => by rw [h.cell (by omega)]; unfold vidC; rw [if_neg (by omega), if_neg (by omega), show 33312 + i - 33312 = i by omega]
  vrB := hv
  oamB := ho

theorem Try.builtVid : Try.prog.built 49 [] = some (blk 33568 (vidC (fun _ => 0) (fun _ => 0) (fun _ => 0))) := by
  rw [built_blk Try.infoVid Try.underlying49 (places := [(0, 32768), (32768, 544), (33312, 256)]) (by kernel_rfl) Try.lenVid (by decide) Try.chkVid]
  rfl
theorem upTo_ok {f : Nat → Int} {k : Nat} (lim : Nat) (h : lim ≤ k ∨ ∀ i, f i = 0) : ∀ i, i < lim → upTo f k i = f i := by
  intro i hi
  unfold upTo
  rcases h with h | h
  · rw [if_pos (by omega)]
  · split
    · rfl
    · exact (h i).symm
theorem vidC_fullV {f oa cg : Nat → Int} {k : Nat} (h : ∀ i, i < 32768 → upTo f k i = f i) : ∀ i, i < 33568 → vidC (upTo f k) oa cg i = vidC f oa cg i := by
  intro i _
  unfold vidC
  split
  · rw [h i (by assumption)]
  · rfl
theorem vidC_fullO {f vr cg : Nat → Int} {k : Nat} (h : ∀ i, i < 544 → upTo f k i = f i) : ∀ i, i < 33568 → vidC vr (upTo f k) cg i = vidC vr f cg i := by
  intro i _
  unfold vidC
  split
  · rfl
  · split
    · rw [h _ (by omega)]
    · rfl
theorem vidC_fullC {f vr oa : Nat → Int} {k : Nat} (h : ∀ i, i < 256 → upTo f k i = f i) : ∀ i, i < 33568 → vidC vr oa (upTo f k) i = vidC vr oa f i := by
  intro i _
  unfold vidC
  split
  · rfl
  · split
    · rfl
    · rw [h _ (by omega)]

set_option maxRecDepth 100000 in
set_option maxHeartbeats 4000000 in
theorem videoOf_any (wv ov cv : Value) (ws os cs : List Int) (w : World) (hw : SlIn w .u16 wv ws) (ho : SlIn w .u8 ov os) (hc : SlIn w .u16 cv cs) :
    Calls Try.prog 16 #[wv, ov, cv] w fun e w' => ∃ b, e = .returned (.pointer (some ⟨b, 0, none⟩)) ∧ w.heap.size ≤ b ∧ ObjAt w' b 49 33568 (vidC (vrOf ws) (oaOf os) (cgOf cs)) ∧ Below w.heap.size w w' := by
  obtain ⟨wa, wcap, rfl, hwl, hwc⟩ := hw
  obtain ⟨oa, ocap, rfl, hol, hoc⟩ := ho
  obtain ⟨ca, ccap, rfl, hcl, hcc⟩ := hc
  have hzv := Try.zeroVid
  obtain ⟨nw, hnw⟩ : ∃ n, n = ws.length := ⟨_, rfl⟩
  obtain ⟨no, hno⟩ : ∃ n, n = os.length := ⟨_, rfl⟩
  obtain ⟨nc, hnc⟩ : ∃ n, n = cs.length := ⟨_, rfl⟩
  rw [← hnw] at hwl hwc ⊢
  rw [← hno] at hol hoc ⊢
  rw [← hnc] at hcl hcc ⊢
  have HW := Lib.hid hwc
  have HO := Lib.hid hoc
  have HC := Lib.hid hcc
  have HNW := Lib.hid hnw
  have HNO := Lib.hid hno
  have HNC := Lib.hid hnc
  obtain ⟨bv, hbv⟩ : ∃ b, b = w.heap.size := ⟨_, rfl⟩
  have HBV := Lib.hid hbv
  have hob : ObjAt (w.alloc (.cells (blk 33568 (vidC (fun _ => 0) (fun _ => 0) (fun _ => 0))) 49)) bv 49 33568 (vidC (upTo (vrOf ws) 0) (fun _ => 0) (fun _ => 0)) := by rw [upTo_zero, hbv]; exact heap_alloc_new w _
  have HOB := Lib.hid hob
  clear hwc hoc hcc hnw hno hnc hob
  refine v_enter Try.func16 rfl 96 rfl (by kernel_rfl) fun a K => ?_
  have K := K.cut [0, 1, 2] (L' := [(0, .slice wa nw wcap), (1, .slice oa no ocap), (2, .slice ca nc ccap)]) (by kernel_rfl)
  show Code.wp _ _ _ _ _
  refine wp_seq ?_
  -- region 0
  refine wp_region_lit ?_
  refine l_run 1 [0, 1, 2, 6] [(0, .slice wa nw wcap), (1, .slice oa no ocap), (2, .slice ca nc ccap), (6, .pointer none)] K (by kernel_rfl) fun a K => ?_
  refine wpList_nil ?_
  refine then_normal ?_
  refine wp_seq ?_
  -- region 1
  refine wp_region_lit ?_
  refine l_val 11 (.agg (blk 33568 (vidC (fun _ => 0) (fun _ => 0) (fun _ => 0)))) K (by kernel_rfl) (ex_build (ps := []) rfl (by simp) Try.builtVid) fun a K => ?_
  refine l_val 12 (w' := (w.alloc (.cells (blk 33568 (vidC (fun _ => 0) (fun _ => 0) (fun _ => 0))) 49))) (.pointer (some ⟨w.heap.size, 0, none⟩)) K (by kernel_rfl) (ex_box (v := .agg (blk 33568 (vidC (fun _ => 0) (fun _ => 0) (fun _ => 0)))) rfl rfl (cells_agg _)) fun a K => ?_
  rw [← HBV.out] at K
  have hob := HOB.out
  have hbel : Below bv w (w.alloc (.cells (blk 33568 (vidC (fun _ => 0) (fun _ => 0) (fun _ => 0))) 49)) := by rw [HBV.out]; exact (Below.refl _ w).alloc (Nat.le_refl _) _
  generalize w.alloc (.cells (blk 33568 (vidC (fun _ => 0) (fun _ => 0) (fun _ => 0))) 49) = w1 at hob hbel ⊢
  refine l_run 1 [0, 1, 2, 6, 7] [(0, .slice wa nw wcap), (1, .slice oa no ocap), (2, .slice ca nc ccap), (6, .pointer none), (7, .pointer (some ⟨bv, 0, none⟩))] K (by kernel_rfl) fun a K => ?_
  refine wpList_nil ?_
  refine then_normal ?_
  refine v_cut (fun a w1 => Knows 96 [(0, .slice wa nw wcap), (1, .slice oa no ocap), (2, .slice ca nc ccap), (7, .pointer (some ⟨bv, 0, none⟩))] a ∧ ObjAt w1 bv 49 33568 (vidC (vrOf ws) (fun _ => 0) (fun _ => 0)) ∧ Below bv w w1) ?_ ?_
  · refine wp_seq ?_
    -- region 2
    refine wp_region_lit ?_
    refine l_run 1 [0, 1, 2, 6, 7, 8] [(0, .slice wa nw wcap), (1, .slice oa no ocap), (2, .slice ca nc ccap), (6, .pointer none), (7, .pointer (some ⟨bv, 0, none⟩)), (8, .int .i64 0)] K (by kernel_rfl) fun a K => ?_
    refine wpList_nil ?_
    refine then_normal ?_
    refine wp_block ?_
    have K := K.cut [0, 1, 2, 7, 8] (L' := [(0, .slice wa nw wcap), (1, .slice oa no ocap), (2, .slice ca nc ccap), (7, .pointer (some ⟨bv, 0, none⟩)), (8, .int .i64 0)]) (by kernel_rfl)
    refine v_for (fun k a w1 => Knows 96 [(0, .slice wa nw wcap), (1, .slice oa no ocap), (2, .slice ca nc ccap), (7, .pointer (some ⟨bv, 0, none⟩)), (8, .int .i64 (k : Int))] a ∧ ObjAt w1 bv 49 33568 (vidC (upTo (vrOf ws) k) (fun _ => 0) (fun _ => 0)) ∧ Below bv w w1) 32768 0 (by omega) ⟨K, by simpa only [upTo_zero] using hob, hbel⟩ ?_
    intro k a wr hk ⟨K, hob, hbel⟩
    by_cases hlt : k < 32768
    · by_cases hn0 : 0 < nw
      · obtain ⟨b, off, rfl, hblt, hcell⟩ := HW.out.resolve_left (by omega)
        have hc1 : wr.cell? ⟨b, off + k % nw, none⟩ = some (.int .u16 (ws.getD (k % nw) 0)) := (hbel.cell (p := ⟨b, off + k % nw, none⟩) (by rw [HBV.out]; exact hblt)).trans (hcell _ (Nat.mod_lt _ hn0))
        have hcv := hob.cell (i := k) (by omega)
        have hfz := hob.frozen (k)
        have i0 : 0 ≤ (k : Int) % (nw : Int) := Int.emod_nonneg _ (by omega)
        have i1 : (k : Int) % (nw : Int) < (nw : Int) := Int.emod_lt_of_pos _ (by omega)
        have i2 : off + ((k : Int) % (nw : Int)).toNat * 1 = off + k % nw := by rw [← Int.natCast_emod, Int.toNat_natCast, Nat.mul_one]
        obtain ⟨q, hq⟩ : ∃ q, q = k / nw := ⟨_, rfl⟩
        have i4 : (k : Int).tdiv (nw : Int) = (q : Int) := by rw [Int.tdiv_eq_ediv_of_nonneg (by omega), hq, Int.natCast_ediv]
        have hdk : q ≤ k := by rw [hq]; exact Nat.div_le_self _ _
        have HQ := Lib.hid hq
        clear hq
        clear hcell
        refine wp_seq ?_
        refine wp_seq ?_
        -- region 3
        refine wp_region_lit ?_
        refine l_run 1 [0, 1, 2, 7, 8, 13] [(0, .slice (some ⟨b, off, none⟩) nw wcap), (1, .slice oa no ocap), (2, .slice ca nc ccap), (7, .pointer (some ⟨bv, 0, none⟩)), (8, .int .i64 (k : Int)), (13, .int .i64 (k : Int))] K (by kernel_rfl) fun a K => ?_
        refine l_val 14 (.bool true) K (by kernel_rfl) (ex_as (v := .bool (decide ((k : Int) < 32768))) (by kernel_rfl) (congrArg _ (decide_eq_true (by omega)))) fun a K => ?_
        refine l_run 3 [0, 1, 2, 7, 8, 15, 17] [(0, .slice (some ⟨b, off, none⟩) nw wcap), (1, .slice oa no ocap), (2, .slice ca nc ccap), (7, .pointer (some ⟨bv, 0, none⟩)), (8, .int .i64 (k : Int)), (15, .bool true), (17, .int .i64 (nw : Int))] K (by kernel_rfl) fun a K => ?_
        refine l_val 18 (.bool true) K (by kernel_rfl) (ex_as (v := .bool (decide ((nw : Int) > 0))) (by kernel_rfl) (congrArg _ (decide_eq_true (by omega)))) fun a K => ?_
        refine l_run 1 [0, 1, 2, 7, 8, 19] [(0, .slice (some ⟨b, off, none⟩) nw wcap), (1, .slice oa no ocap), (2, .slice ca nc ccap), (7, .pointer (some ⟨bv, 0, none⟩)), (8, .int .i64 (k : Int)), (19, .bool true)] K (by kernel_rfl) fun a K => ?_
        refine wpList_nil ?_
        refine then_normal ?_
        refine v_true K rfl rfl ?_
        refine wp_skip ?_
        refine then_normal ?_
        refine wp_seq ?_
        refine wp_block ?_
        -- region 5
        refine d_region 19 (fun w' => w'.cell? ⟨b, off + k % nw, none⟩ = some (.int .u16 (ws.getD (k % nw) 0))) (by kernel_rfl) ?_
        refine d_run (fuel := 8) [0, 1, 2, 3, 4, 5, 9, 10, 11, 15, 16] [0, 1, 2, 7, 8, 19, 23, 24, 25, 27, 31, 33, 38] #[true, true, true, true, true, true, false, false, false, true, true, true, false, false, false, true, true, false, false] [(0, .slice (some ⟨b, off, none⟩) nw wcap), (1, .slice oa no ocap), (2, .slice ca nc ccap), (7, .pointer (some ⟨bv, 0, none⟩)), (8, .int .i64 (k : Int)), (19, .bool true), (23, .int .i64 (k : Int)), (24, .slice (some ⟨b, off, none⟩) nw wcap), (25, .int .i64 (k : Int)), (27, .int .i64 (nw : Int)), (31, .int .i64 (k : Int)), (33, .int .i64 (nw : Int)), (38, .pointer (some ⟨bv, 0, none⟩))] K (fun _ _ _ _ _ h => h) (by kernel_rfl) (by kernel_rfl) hc1 fun a K => ?_
        refine d_val 6 28 (.int .i64 ((k : Int) % (nw : Int))) K (fun _ _ _ _ _ h => h) rfl (by kernel_rfl) (by kernel_rfl) (by kernel_rfl) (fun w' hS' => (ex_rem rfl rfl rfl (by omega) (Int.tmod_eq_emod_of_nonneg (by omega)))) hc1 fun a K => ?_
        refine d_val 7 29 (.pointer (some ⟨b, off + k % nw, none⟩)) K (fun _ _ _ _ _ h => h) rfl (by kernel_rfl) (by kernel_rfl) (by kernel_rfl) (fun w' hS' => (ex_idx_slice' (s := 1) rfl Try.underlying22 (by kernel_rfl) rfl rfl i0 i1 i2)) hc1 fun a K => ?_
        refine d_val 8 30 (.int .u16 (ws.getD (k % nw) 0)) K (fun _ _ _ _ _ h => h) rfl (by kernel_rfl) (by kernel_rfl) (by kernel_rfl) (fun w' hS' => (ex_load rfl rfl Try.underlying27 rfl hS')) hc1 fun a K => ?_
        refine d_val 12 34 (.int .i64 (q : Int)) K (fun _ _ _ _ _ h => h) rfl (by kernel_rfl) (by kernel_rfl) (by kernel_rfl) (fun w' hS' => (ex_quo rfl rfl rfl (by omega) ((congrArg _ i4).trans (IntWalk.i64_in _ (by omega))))) hc1 fun a K => ?_
        refine d_val 13 35 (.int .u16 (q : Int)) K (fun _ _ _ _ _ h => h) rfl (by kernel_rfl) (by kernel_rfl) (by kernel_rfl) (fun w' hS' => (ex_as (v := .int .u16 (IntKind.wrap .u16 (q : Int))) (by kernel_rfl) (congrArg _ (IntWalk.u16_in _ (by omega))))) hc1 fun a K => ?_
        refine d_val 14 36 (.int .u16 (((ws.getD (k % nw) 0) + (q : Int)) % 65536)) K (fun _ _ _ _ _ h => h) rfl (by kernel_rfl) (by kernel_rfl) (by kernel_rfl) (fun w' hS' => (ex_as (v := .int .u16 (IntKind.wrap .u16 ((ws.getD (k % nw) 0) + (q : Int)))) (by kernel_rfl) rfl)) hc1 fun a K => ?_
        refine d_val 17 39 (.pointer (some ⟨bv, k, none⟩)) K (fun _ _ _ _ _ h => h) rfl (by kernel_rfl) (by kernel_rfl) (by kernel_rfl) (fun w' hS' => (ex_idx_arr' (s := 1) rfl Try.underlying45 (by kernel_rfl) rfl rfl (by omega) (by omega) (by omega))) hc1 fun a K => ?_
        refine d_one 18 (by kernel_rfl) ?_
        refine c_unit K rfl (by kernel_rfl) (ex_store rfl rfl rfl (by kernel_rfl) rfl hcv hfz) ?_ ?_
        · refine Or.inr (show (wr.setCell ⟨bv, k, none⟩ _).cell? ⟨b, off + k % nw, none⟩ = _ from ?_); rw [World.cell?_setCell_other _ _ _ _ (fun e => by have e2 : bv = b := congrArg Addr.block e; have := HBV.out; omega)]; exact hc1
        have K := K.cut [0, 1, 2, 7, 8, 19] (L' := [(0, .slice (some ⟨b, off, none⟩) nw wcap), (1, .slice oa no ocap), (2, .slice ca nc ccap), (7, .pointer (some ⟨bv, 0, none⟩)), (8, .int .i64 (k : Int)), (19, .bool true)]) (by kernel_rfl)
        refine d_done (by kernel_rfl) ?_
        refine block_normal ?_
        refine then_normal ?_
        -- region 4
        refine wp_region_lit ?_
        refine l_run 1 [0, 1, 2, 7, 8, 19, 20] [(0, .slice (some ⟨b, off, none⟩) nw wcap), (1, .slice oa no ocap), (2, .slice ca nc ccap), (7, .pointer (some ⟨bv, 0, none⟩)), (8, .int .i64 (k : Int)), (19, .bool true), (20, .int .i64 (k : Int))] K (by kernel_rfl) fun a K => ?_
        refine l_val 21 (.int .i64 ((k : Int) + 1)) K (by kernel_rfl) (ex_as (v := .int .i64 (IntKind.wrap .i64 ((k : Int) + 1))) (by kernel_rfl) (congrArg _ (IntWalk.i64_in _ (by omega)))) fun a K => ?_
        refine l_run 1 [0, 1, 2, 7, 8, 19] [(0, .slice (some ⟨b, off, none⟩) nw wcap), (1, .slice oa no ocap), (2, .slice ca nc ccap), (7, .pointer (some ⟨bv, 0, none⟩)), (8, .int .i64 ((k : Int) + 1)), (19, .bool true)] K (by kernel_rfl) fun a K => ?_
        refine wpList_nil ?_
        have K := K.cut [0, 1, 2, 7, 8] (L' := [(0, .slice (some ⟨b, off, none⟩) nw wcap), (1, .slice oa no ocap), (2, .slice ca nc ccap), (7, .pointer (some ⟨bv, 0, none⟩)), (8, .int .i64 ((k : Int) + 1))]) (by kernel_rfl)
        refine then_normal ⟨k + 1, by omega, by omega, K.as (by rfl), ?_, ?_⟩
        · have h := hob.set (k) (.int .u16 (upTo (vrOf ws) (k + 1) k))
          rw [vidC_vr _ _ _ _ _ (by omega) (upTo_step _ k), upTo_at] at h
          have e : vrOf ws k = (ws.getD (k % nw) 0 + (q : Int)) % 65536 := by unfold vrOf; rw [← HNW.out, if_neg (by omega), ← HQ.out]
          rw [e] at h
          exact h
        · exact below_drewN' (hbel.setCell (p := ⟨bv, k, none⟩) (Nat.le_refl _) _) 1
      · refine wp_seq ?_
        refine wp_seq ?_
        -- region 3
        refine wp_region_lit ?_
        refine l_run 1 [0, 1, 2, 7, 8, 13] [(0, .slice wa nw wcap), (1, .slice oa no ocap), (2, .slice ca nc ccap), (7, .pointer (some ⟨bv, 0, none⟩)), (8, .int .i64 (k : Int)), (13, .int .i64 (k : Int))] K (by kernel_rfl) fun a K => ?_
        refine l_val 14 (.bool true) K (by kernel_rfl) (ex_as (v := .bool (decide ((k : Int) < 32768))) (by kernel_rfl) (congrArg _ (decide_eq_true (by omega)))) fun a K => ?_
        refine l_run 3 [0, 1, 2, 7, 8, 15, 17] [(0, .slice wa nw wcap), (1, .slice oa no ocap), (2, .slice ca nc ccap), (7, .pointer (some ⟨bv, 0, none⟩)), (8, .int .i64 (k : Int)), (15, .bool true), (17, .int .i64 (nw : Int))] K (by kernel_rfl) fun a K => ?_
        refine l_val 18 (.bool false) K (by kernel_rfl) (ex_as (v := .bool (decide ((nw : Int) > 0))) (by kernel_rfl) (congrArg _ (decide_eq_false (by omega)))) fun a K => ?_
        refine l_run 1 [0, 1, 2, 7, 8, 19] [(0, .slice wa nw wcap), (1, .slice oa no ocap), (2, .slice ca nc ccap), (7, .pointer (some ⟨bv, 0, none⟩)), (8, .int .i64 (k : Int)), (19, .bool false)] K (by kernel_rfl) fun a K => ?_
        refine wpList_nil ?_
        refine then_normal ?_
        refine v_false K rfl rfl ?_
        refine wp_exit ?_
        refine then_exit ?_
        refine then_exit ?_
        refine block_exit ?_
        have K := K.cut [0, 1, 2, 7] (L' := [(0, .slice wa nw wcap), (1, .slice oa no ocap), (2, .slice ca nc ccap), (7, .pointer (some ⟨bv, 0, none⟩))]) (by kernel_rfl)
        exact ⟨K, hob.congr (vidC_fullV (upTo_ok _ (Or.inr fun i => by unfold vrOf; rw [if_pos (by rw [← HNW.out]; omega)]))), hbel⟩
    · refine wp_seq ?_
      refine wp_seq ?_
      -- region 3
      refine wp_region_lit ?_
      refine l_run 1 [0, 1, 2, 7, 8, 13] [(0, .slice wa nw wcap), (1, .slice oa no ocap), (2, .slice ca nc ccap), (7, .pointer (some ⟨bv, 0, none⟩)), (8, .int .i64 (k : Int)), (13, .int .i64 (k : Int))] K (by kernel_rfl) fun a K => ?_
      refine l_val 14 (.bool false) K (by kernel_rfl) (ex_as (v := .bool (decide ((k : Int) < 32768))) (by kernel_rfl) (congrArg _ (decide_eq_false (by omega)))) fun a K => ?_
      refine l_run 5 [0, 1, 2, 7, 8, 19] [(0, .slice wa nw wcap), (1, .slice oa no ocap), (2, .slice ca nc ccap), (7, .pointer (some ⟨bv, 0, none⟩)), (8, .int .i64 (k : Int)), (19, .bool false)] K (by kernel_rfl) fun a K => ?_
      refine wpList_nil ?_
      refine then_normal ?_
      refine v_false K rfl rfl ?_
      refine wp_exit ?_
      refine then_exit ?_
      refine then_exit ?_
      refine block_exit ?_
      have K := K.cut [0, 1, 2, 7] (L' := [(0, .slice wa nw wcap), (1, .slice oa no ocap), (2, .slice ca nc ccap), (7, .pointer (some ⟨bv, 0, none⟩))]) (by kernel_rfl)
      exact ⟨K, hob.congr (vidC_fullV (upTo_ok _ (Or.inl (by omega)))), hbel⟩
  rintro a w1 ⟨K, hob, hbel⟩
  refine v_cut (fun a w1 => Knows 96 [(0, .slice wa nw wcap), (1, .slice oa no ocap), (2, .slice ca nc ccap), (7, .pointer (some ⟨bv, 0, none⟩))] a ∧ ObjAt w1 bv 49 33568 (vidC (vrOf ws) (oaOf os) (fun _ => 0)) ∧ Below bv w w1) ?_ ?_
  · refine wp_seq ?_
    -- region 6
    refine wp_region_lit ?_
    refine l_run 1 [0, 1, 2, 7, 9] [(0, .slice wa nw wcap), (1, .slice oa no ocap), (2, .slice ca nc ccap), (7, .pointer (some ⟨bv, 0, none⟩)), (9, .int .i64 0)] K (by kernel_rfl) fun a K => ?_
    refine wpList_nil ?_
    refine then_normal ?_
    refine wp_block ?_
    have K := K.cut [0, 1, 2, 7, 9] (L' := [(0, .slice wa nw wcap), (1, .slice oa no ocap), (2, .slice ca nc ccap), (7, .pointer (some ⟨bv, 0, none⟩)), (9, .int .i64 0)]) (by kernel_rfl)
    refine v_for (fun k a w1 => Knows 96 [(0, .slice wa nw wcap), (1, .slice oa no ocap), (2, .slice ca nc ccap), (7, .pointer (some ⟨bv, 0, none⟩)), (9, .int .i64 (k : Int))] a ∧ ObjAt w1 bv 49 33568 (vidC (vrOf ws) (upTo (oaOf os) k) (fun _ => 0)) ∧ Below bv w w1) 544 0 (by omega) ⟨K, by simpa only [upTo_zero] using hob, hbel⟩ ?_
    intro k a wr hk ⟨K, hob, hbel⟩
    by_cases hlt : k < 544
    · by_cases hn0 : 0 < no
      · obtain ⟨b, off, rfl, hblt, hcell⟩ := HO.out.resolve_left (by omega)
        have hc1 : wr.cell? ⟨b, off + k % no, none⟩ = some (.int .u8 (os.getD (k % no) 0)) := (hbel.cell (p := ⟨b, off + k % no, none⟩) (by rw [HBV.out]; exact hblt)).trans (hcell _ (Nat.mod_lt _ hn0))
        have hcv := hob.cell (i := 32768 + k) (by omega)
        have hfz := hob.frozen (32768 + k)
        have i0 : 0 ≤ (k : Int) % (no : Int) := Int.emod_nonneg _ (by omega)
        have i1 : (k : Int) % (no : Int) < (no : Int) := Int.emod_lt_of_pos _ (by omega)
        have i2 : off + ((k : Int) % (no : Int)).toNat * 1 = off + k % no := by rw [← Int.natCast_emod, Int.toNat_natCast, Nat.mul_one]
        obtain ⟨q, hq⟩ : ∃ q, q = k / no := ⟨_, rfl⟩
        have i4 : (k : Int).tdiv (no : Int) = (q : Int) := by rw [Int.tdiv_eq_ediv_of_nonneg (by omega), hq, Int.natCast_ediv]
        have hdk : q ≤ k := by rw [hq]; exact Nat.div_le_self _ _
        have HQ := Lib.hid hq
        clear hq
        clear hcell
        refine wp_seq ?_
        refine wp_seq ?_
        -- region 7
        refine wp_region_lit ?_
        refine l_run 1 [0, 1, 2, 7, 9, 40] [(0, .slice wa nw wcap), (1, .slice (some ⟨b, off, none⟩) no ocap), (2, .slice ca nc ccap), (7, .pointer (some ⟨bv, 0, none⟩)), (9, .int .i64 (k : Int)), (40, .int .i64 (k : Int))] K (by kernel_rfl) fun a K => ?_
        refine l_val 41 (.bool true) K (by kernel_rfl) (ex_as (v := .bool (decide ((k : Int) < 544))) (by kernel_rfl) (congrArg _ (decide_eq_true (by omega)))) fun a K => ?_
        refine l_run 3 [0, 1, 2, 7, 9, 42, 44] [(0, .slice wa nw wcap), (1, .slice (some ⟨b, off, none⟩) no ocap), (2, .slice ca nc ccap), (7, .pointer (some ⟨bv, 0, none⟩)), (9, .int .i64 (k : Int)), (42, .bool true), (44, .int .i64 (no : Int))] K (by kernel_rfl) fun a K => ?_
        refine l_val 45 (.bool true) K (by kernel_rfl) (ex_as (v := .bool (decide ((no : Int) > 0))) (by kernel_rfl) (congrArg _ (decide_eq_true (by omega)))) fun a K => ?_
        refine l_run 1 [0, 1, 2, 7, 9, 46] [(0, .slice wa nw wcap), (1, .slice (some ⟨b, off, none⟩) no ocap), (2, .slice ca nc ccap), (7, .pointer (some ⟨bv, 0, none⟩)), (9, .int .i64 (k : Int)), (46, .bool true)] K (by kernel_rfl) fun a K => ?_
        refine wpList_nil ?_
        refine then_normal ?_
        refine v_true K rfl rfl ?_
        refine wp_skip ?_
        refine then_normal ?_
        refine wp_seq ?_
        refine wp_block ?_
        -- region 9
        refine d_region 19 (fun w' => w'.cell? ⟨b, off + k % no, none⟩ = some (.int .u8 (os.getD (k % no) 0))) (by kernel_rfl) ?_
        refine d_run (fuel := 8) [0, 1, 2, 3, 4, 5, 9, 10, 11, 15, 16] [0, 1, 2, 7, 9, 46, 50, 51, 52, 54, 58, 60, 65] #[true, true, true, true, true, true, false, false, false, true, true, true, false, false, false, true, true, false, false] [(0, .slice wa nw wcap), (1, .slice (some ⟨b, off, none⟩) no ocap), (2, .slice ca nc ccap), (7, .pointer (some ⟨bv, 0, none⟩)), (9, .int .i64 (k : Int)), (46, .bool true), (50, .int .i64 (k : Int)), (51, .slice (some ⟨b, off, none⟩) no ocap), (52, .int .i64 (k : Int)), (54, .int .i64 (no : Int)), (58, .int .i64 (k : Int)), (60, .int .i64 (no : Int)), (65, .pointer (some ⟨bv, 32768, none⟩))] K (fun _ _ _ _ _ h => h) (by kernel_rfl) (by kernel_rfl) hc1 fun a K => ?_
        refine d_val 6 55 (.int .i64 ((k : Int) % (no : Int))) K (fun _ _ _ _ _ h => h) rfl (by kernel_rfl) (by kernel_rfl) (by kernel_rfl) (fun w' hS' => (ex_rem rfl rfl rfl (by omega) (Int.tmod_eq_emod_of_nonneg (by omega)))) hc1 fun a K => ?_
        refine d_val 7 56 (.pointer (some ⟨b, off + k % no, none⟩)) K (fun _ _ _ _ _ h => h) rfl (by kernel_rfl) (by kernel_rfl) (by kernel_rfl) (fun w' hS' => (ex_idx_slice' (s := 1) rfl Try.underlying23 (by kernel_rfl) rfl rfl i0 i1 i2)) hc1 fun a K => ?_
        refine d_val 8 57 (.int .u8 (os.getD (k % no) 0)) K (fun _ _ _ _ _ h => h) rfl (by kernel_rfl) (by kernel_rfl) (by kernel_rfl) (fun w' hS' => (ex_load rfl rfl Try.underlying5 rfl hS')) hc1 fun a K => ?_
        refine d_val 12 61 (.int .i64 (q : Int)) K (fun _ _ _ _ _ h => h) rfl (by kernel_rfl) (by kernel_rfl) (by kernel_rfl) (fun w' hS' => (ex_quo rfl rfl rfl (by omega) ((congrArg _ i4).trans (IntWalk.i64_in _ (by omega))))) hc1 fun a K => ?_
        refine d_val 13 62 (.int .u8 ((q : Int) % 256)) K (fun _ _ _ _ _ h => h) rfl (by kernel_rfl) (by kernel_rfl) (by kernel_rfl) (fun w' hS' => (ex_as (v := .int .u8 (IntKind.wrap .u8 (q : Int))) (by kernel_rfl) (congrArg _ (rfl)))) hc1 fun a K => ?_
        refine d_val 14 63 (.int .u8 ((os.getD (k % no) 0 + (q : Int)) % 256)) K (fun _ _ _ _ _ h => h) rfl (by kernel_rfl) (by kernel_rfl) (by kernel_rfl) (fun w' hS' => (ex_as (v := .int .u8 (IntKind.wrap .u8 ((os.getD (k % no) 0) + ((q : Int) % 256)))) (by kernel_rfl) (congrArg _ (show (os.getD (k % no) 0 + (q : Int) % 256) % 256 = (os.getD (k % no) 0 + (q : Int)) % 256 by omega)))) hc1 fun a K => ?_
        refine d_val 17 66 (.pointer (some ⟨bv, 32768 + k, none⟩)) K (fun _ _ _ _ _ h => h) rfl (by kernel_rfl) (by kernel_rfl) (by kernel_rfl) (fun w' hS' => (ex_idx_arr' (s := 1) rfl Try.underlying46 (by kernel_rfl) rfl rfl (by omega) (by omega) (by omega))) hc1 fun a K => ?_
        refine d_one 18 (by kernel_rfl) ?_
        refine c_unit K rfl (by kernel_rfl) (ex_store rfl rfl rfl (by kernel_rfl) rfl hcv hfz) ?_ ?_
        · refine Or.inr (show (wr.setCell ⟨bv, 32768 + k, none⟩ _).cell? ⟨b, off + k % no, none⟩ = _ from ?_); rw [World.cell?_setCell_other _ _ _ _ (fun e => by have e2 : bv = b := congrArg Addr.block e; have := HBV.out; omega)]; exact hc1
        have K := K.cut [0, 1, 2, 7, 9, 46] (L' := [(0, .slice wa nw wcap), (1, .slice (some ⟨b, off, none⟩) no ocap), (2, .slice ca nc ccap), (7, .pointer (some ⟨bv, 0, none⟩)), (9, .int .i64 (k : Int)), (46, .bool true)]) (by kernel_rfl)
        refine d_done (by kernel_rfl) ?_
        refine block_normal ?_
        refine then_normal ?_
        -- region 8
        refine wp_region_lit ?_
        refine l_run 1 [0, 1, 2, 7, 9, 46, 47] [(0, .slice wa nw wcap), (1, .slice (some ⟨b, off, none⟩) no ocap), (2, .slice ca nc ccap), (7, .pointer (some ⟨bv, 0, none⟩)), (9, .int .i64 (k : Int)), (46, .bool true), (47, .int .i64 (k : Int))] K (by kernel_rfl) fun a K => ?_
        refine l_val 48 (.int .i64 ((k : Int) + 1)) K (by kernel_rfl) (ex_as (v := .int .i64 (IntKind.wrap .i64 ((k : Int) + 1))) (by kernel_rfl) (congrArg _ (IntWalk.i64_in _ (by omega)))) fun a K => ?_
        refine l_run 1 [0, 1, 2, 7, 9, 46] [(0, .slice wa nw wcap), (1, .slice (some ⟨b, off, none⟩) no ocap), (2, .slice ca nc ccap), (7, .pointer (some ⟨bv, 0, none⟩)), (9, .int .i64 ((k : Int) + 1)), (46, .bool true)] K (by kernel_rfl) fun a K => ?_
        refine wpList_nil ?_
        have K := K.cut [0, 1, 2, 7, 9] (L' := [(0, .slice wa nw wcap), (1, .slice (some ⟨b, off, none⟩) no ocap), (2, .slice ca nc ccap), (7, .pointer (some ⟨bv, 0, none⟩)), (9, .int .i64 ((k : Int) + 1))]) (by kernel_rfl)
        refine then_normal ⟨k + 1, by omega, by omega, K.as (by rfl), ?_, ?_⟩
        · have h := hob.set (32768 + k) (.int .u8 (upTo (oaOf os) (k + 1) k))
          rw [vidC_oa _ _ _ _ _ (by omega) (upTo_step _ k), upTo_at] at h
          have e : oaOf os k = (os.getD (k % no) 0 + (q : Int)) % 256 := by unfold oaOf; rw [← HNO.out, if_neg (by omega), ← HQ.out]
          rw [e] at h
          exact h
        · exact below_drewN' (hbel.setCell (p := ⟨bv, 32768 + k, none⟩) (Nat.le_refl _) _) 1
      · refine wp_seq ?_
        refine wp_seq ?_
        -- region 7
        refine wp_region_lit ?_
        refine l_run 1 [0, 1, 2, 7, 9, 40] [(0, .slice wa nw wcap), (1, .slice oa no ocap), (2, .slice ca nc ccap), (7, .pointer (some ⟨bv, 0, none⟩)), (9, .int .i64 (k : Int)), (40, .int .i64 (k : Int))] K (by kernel_rfl) fun a K => ?_
        refine l_val 41 (.bool true) K (by kernel_rfl) (ex_as (v := .bool (decide ((k : Int) < 544))) (by kernel_rfl) (congrArg _ (decide_eq_true (by omega)))) fun a K => ?_
        refine l_run 3 [0, 1, 2, 7, 9, 42, 44] [(0, .slice wa nw wcap), (1, .slice oa no ocap), (2, .slice ca nc ccap), (7, .pointer (some ⟨bv, 0, none⟩)), (9, .int .i64 (k : Int)), (42, .bool true), (44, .int .i64 (no : Int))] K (by kernel_rfl) fun a K => ?_
        refine l_val 45 (.bool false) K (by kernel_rfl) (ex_as (v := .bool (decide ((no : Int) > 0))) (by kernel_rfl) (congrArg _ (decide_eq_false (by omega)))) fun a K => ?_
        refine l_run 1 [0, 1, 2, 7, 9, 46] [(0, .slice wa nw wcap), (1, .slice oa no ocap), (2, .slice ca nc ccap), (7, .pointer (some ⟨bv, 0, none⟩)), (9, .int .i64 (k : Int)), (46, .bool false)] K (by kernel_rfl) fun a K => ?_
        refine wpList_nil ?_
        refine then_normal ?_
        refine v_false K rfl rfl ?_
        refine wp_exit ?_
        refine then_exit ?_
        refine then_exit ?_
        refine block_exit ?_
        have K := K.cut [0, 1, 2, 7] (L' := [(0, .slice wa nw wcap), (1, .slice oa no ocap), (2, .slice ca nc ccap), (7, .pointer (some ⟨bv, 0, none⟩))]) (by kernel_rfl)
        exact ⟨K, hob.congr (vidC_fullO (upTo_ok _ (Or.inr fun i => by unfold oaOf; rw [if_pos (by rw [← HNO.out]; omega)]))), hbel⟩
    · refine wp_seq ?_
      refine wp_seq ?_
      -- region 7
      refine wp_region_lit ?_
      refine l_run 1 [0, 1, 2, 7, 9, 40] [(0, .slice wa nw wcap), (1, .slice oa no ocap), (2, .slice ca nc ccap), (7, .pointer (some ⟨bv, 0, none⟩)), (9, .int .i64 (k : Int)), (40, .int .i64 (k : Int))] K (by kernel_rfl) fun a K => ?_
      refine l_val 41 (.bool false) K (by kernel_rfl) (ex_as (v := .bool (decide ((k : Int) < 544))) (by kernel_rfl) (congrArg _ (decide_eq_false (by omega)))) fun a K => ?_
      refine l_run 5 [0, 1, 2, 7, 9, 46] [(0, .slice wa nw wcap), (1, .slice oa no ocap), (2, .slice ca nc ccap), (7, .pointer (some ⟨bv, 0, none⟩)), (9, .int .i64 (k : Int)), (46, .bool false)] K (by kernel_rfl) fun a K => ?_
      refine wpList_nil ?_
      refine then_normal ?_
      refine v_false K rfl rfl ?_
      refine wp_exit ?_
      refine then_exit ?_
      refine then_exit ?_
      refine block_exit ?_
      have K := K.cut [0, 1, 2, 7] (L' := [(0, .slice wa nw wcap), (1, .slice oa no ocap), (2, .slice ca nc ccap), (7, .pointer (some ⟨bv, 0, none⟩))]) (by kernel_rfl)
      exact ⟨K, hob.congr (vidC_fullO (upTo_ok _ (Or.inl (by omega)))), hbel⟩
  rintro a w1 ⟨K, hob, hbel⟩
  refine v_cut (fun a w1 => Knows 96 [(0, .slice wa nw wcap), (1, .slice oa no ocap), (2, .slice ca nc ccap), (7, .pointer (some ⟨bv, 0, none⟩))] a ∧ ObjAt w1 bv 49 33568 (vidC (vrOf ws) (oaOf os) (cgOf cs)) ∧ Below bv w w1) ?_ ?_
  · refine wp_seq ?_
    -- region 10
    refine wp_region_lit ?_
    refine l_run 1 [0, 1, 2, 7, 10] [(0, .slice wa nw wcap), (1, .slice oa no ocap), (2, .slice ca nc ccap), (7, .pointer (some ⟨bv, 0, none⟩)), (10, .int .i64 0)] K (by kernel_rfl) fun a K => ?_
    refine wpList_nil ?_
    refine then_normal ?_
    refine wp_block ?_
    have K := K.cut [0, 1, 2, 7, 10] (L' := [(0, .slice wa nw wcap), (1, .slice oa no ocap), (2, .slice ca nc ccap), (7, .pointer (some ⟨bv, 0, none⟩)), (10, .int .i64 0)]) (by kernel_rfl)
    refine v_for (fun k a w1 => Knows 96 [(0, .slice wa nw wcap), (1, .slice oa no ocap), (2, .slice ca nc ccap), (7, .pointer (some ⟨bv, 0, none⟩)), (10, .int .i64 (k : Int))] a ∧ ObjAt w1 bv 49 33568 (vidC (vrOf ws) (oaOf os) (upTo (cgOf cs) k)) ∧ Below bv w w1) 256 0 (by omega) ⟨K, by simpa only [upTo_zero] using hob, hbel⟩ ?_
    intro k a wr hk ⟨K, hob, hbel⟩
    by_cases hlt : k < 256
    · by_cases hn0 : 0 < nc
      · obtain ⟨b, off, rfl, hblt, hcell⟩ := HC.out.resolve_left (by omega)
        have hc1 : wr.cell? ⟨b, off + k % nc, none⟩ = some (.int .u16 (cs.getD (k % nc) 0)) := (hbel.cell (p := ⟨b, off + k % nc, none⟩) (by rw [HBV.out]; exact hblt)).trans (hcell _ (Nat.mod_lt _ hn0))
        have hcv := hob.cell (i := 33312 + k) (by omega)
        have hfz := hob.frozen (33312 + k)
        have i0 : 0 ≤ (k : Int) % (nc : Int) := Int.emod_nonneg _ (by omega)
        have i1 : (k : Int) % (nc : Int) < (nc : Int) := Int.emod_lt_of_pos _ (by omega)
        have i2 : off + ((k : Int) % (nc : Int)).toNat * 1 = off + k % nc := by rw [← Int.natCast_emod, Int.toNat_natCast, Nat.mul_one]
        obtain ⟨q, hq⟩ : ∃ q, q = k / nc := ⟨_, rfl⟩
        have i4 : (k : Int).tdiv (nc : Int) = (q : Int) := by rw [Int.tdiv_eq_ediv_of_nonneg (by omega), hq, Int.natCast_ediv]
        have hdk : q ≤ k := by rw [hq]; exact Nat.div_le_self _ _
        have HQ := Lib.hid hq
        clear hq
        clear hcell
        refine wp_seq ?_
        refine wp_seq ?_
        -- region 11
        refine wp_region_lit ?_
        refine l_run 1 [0, 1, 2, 7, 10, 67] [(0, .slice wa nw wcap), (1, .slice oa no ocap), (2, .slice (some ⟨b, off, none⟩) nc ccap), (7, .pointer (some ⟨bv, 0, none⟩)), (10, .int .i64 (k : Int)), (67, .int .i64 (k : Int))] K (by kernel_rfl) fun a K => ?_
        refine l_val 68 (.bool true) K (by kernel_rfl) (ex_as (v := .bool (decide ((k : Int) < 256))) (by kernel_rfl) (congrArg _ (decide_eq_true (by omega)))) fun a K => ?_
        refine l_run 3 [0, 1, 2, 7, 10, 69, 71] [(0, .slice wa nw wcap), (1, .slice oa no ocap), (2, .slice (some ⟨b, off, none⟩) nc ccap), (7, .pointer (some ⟨bv, 0, none⟩)), (10, .int .i64 (k : Int)), (69, .bool true), (71, .int .i64 (nc : Int))] K (by kernel_rfl) fun a K => ?_
        refine l_val 72 (.bool true) K (by kernel_rfl) (ex_as (v := .bool (decide ((nc : Int) > 0))) (by kernel_rfl) (congrArg _ (decide_eq_true (by omega)))) fun a K => ?_
        refine l_run 1 [0, 1, 2, 7, 10, 73] [(0, .slice wa nw wcap), (1, .slice oa no ocap), (2, .slice (some ⟨b, off, none⟩) nc ccap), (7, .pointer (some ⟨bv, 0, none⟩)), (10, .int .i64 (k : Int)), (73, .bool true)] K (by kernel_rfl) fun a K => ?_
        refine wpList_nil ?_
        refine then_normal ?_
        refine v_true K rfl rfl ?_
        refine wp_skip ?_
        refine then_normal ?_
        refine wp_seq ?_
        refine wp_block ?_
        -- region 13
        refine d_region 20 (fun w' => w'.cell? ⟨b, off + k % nc, none⟩ = some (.int .u16 (cs.getD (k % nc) 0))) (by kernel_rfl) ?_
        refine d_run (fuel := 9) [0, 1, 2, 3, 4, 5, 9, 10, 11, 16, 17] [0, 1, 2, 7, 10, 73, 77, 78, 79, 81, 85, 87, 93] #[true, true, true, true, true, true, false, false, false, true, true, true, false, false, false, false, true, true, false, false] [(0, .slice wa nw wcap), (1, .slice oa no ocap), (2, .slice (some ⟨b, off, none⟩) nc ccap), (7, .pointer (some ⟨bv, 0, none⟩)), (10, .int .i64 (k : Int)), (73, .bool true), (77, .int .i64 (k : Int)), (78, .slice (some ⟨b, off, none⟩) nc ccap), (79, .int .i64 (k : Int)), (81, .int .i64 (nc : Int)), (85, .int .i64 (k : Int)), (87, .int .i64 (nc : Int)), (93, .pointer (some ⟨bv, 33312, none⟩))] K (fun _ _ _ _ _ h => h) (by kernel_rfl) (by kernel_rfl) hc1 fun a K => ?_
        refine d_val 6 82 (.int .i64 ((k : Int) % (nc : Int))) K (fun _ _ _ _ _ h => h) rfl (by kernel_rfl) (by kernel_rfl) (by kernel_rfl) (fun w' hS' => (ex_rem rfl rfl rfl (by omega) (Int.tmod_eq_emod_of_nonneg (by omega)))) hc1 fun a K => ?_
        refine d_val 7 83 (.pointer (some ⟨b, off + k % nc, none⟩)) K (fun _ _ _ _ _ h => h) rfl (by kernel_rfl) (by kernel_rfl) (by kernel_rfl) (fun w' hS' => (ex_idx_slice' (s := 1) rfl Try.underlying22 (by kernel_rfl) rfl rfl i0 i1 i2)) hc1 fun a K => ?_
        refine d_val 8 84 (.int .u16 (cs.getD (k % nc) 0)) K (fun _ _ _ _ _ h => h) rfl (by kernel_rfl) (by kernel_rfl) (by kernel_rfl) (fun w' hS' => (ex_load rfl rfl Try.underlying27 rfl hS')) hc1 fun a K => ?_
        refine d_val 12 88 (.int .i64 (q : Int)) K (fun _ _ _ _ _ h => h) rfl (by kernel_rfl) (by kernel_rfl) (by kernel_rfl) (fun w' hS' => (ex_quo rfl rfl rfl (by omega) ((congrArg _ i4).trans (IntWalk.i64_in _ (by omega))))) hc1 fun a K => ?_
        refine d_val 13 89 (.int .u16 (q : Int)) K (fun _ _ _ _ _ h => h) rfl (by kernel_rfl) (by kernel_rfl) (by kernel_rfl) (fun w' hS' => (ex_as (v := .int .u16 (IntKind.wrap .u16 (q : Int))) (by kernel_rfl) (congrArg _ (IntWalk.u16_in _ (by omega))))) hc1 fun a K => ?_
        refine d_val 14 90 (.int .u16 (((cs.getD (k % nc) 0) + (q : Int)) % 65536)) K (fun _ _ _ _ _ h => h) rfl (by kernel_rfl) (by kernel_rfl) (by kernel_rfl) (fun w' hS' => (ex_as (v := .int .u16 (IntKind.wrap .u16 ((cs.getD (k % nc) 0) + (q : Int)))) (by kernel_rfl) rfl)) hc1 fun a K => ?_
        refine d_val 15 91 (.int .u16 ((cs.getD (k % nc) 0 + (q : Int)) % 65536 % 32768)) K (fun _ _ _ _ _ h => h) rfl (by kernel_rfl) (by kernel_rfl) (by kernel_rfl) (fun w' hS' => (ex_rem rfl rfl rfl (by omega) (Int.tmod_eq_emod_of_nonneg (by omega)))) hc1 fun a K => ?_
        refine d_val 18 94 (.pointer (some ⟨bv, 33312 + k, none⟩)) K (fun _ _ _ _ _ h => h) rfl (by kernel_rfl) (by kernel_rfl) (by kernel_rfl) (fun w' hS' => (ex_idx_arr' (s := 1) rfl Try.underlying47 (by kernel_rfl) rfl rfl (by omega) (by omega) (by omega))) hc1 fun a K => ?_
        refine d_one 19 (by kernel_rfl) ?_
        refine c_unit K rfl (by kernel_rfl) (ex_store rfl rfl rfl (by kernel_rfl) rfl hcv hfz) ?_ ?_
        · refine Or.inr (show (wr.setCell ⟨bv, 33312 + k, none⟩ _).cell? ⟨b, off + k % nc, none⟩ = _ from ?_); rw [World.cell?_setCell_other _ _ _ _ (fun e => by have e2 : bv = b := congrArg Addr.block e; have := HBV.out; omega)]; exact hc1
        have K := K.cut [0, 1, 2, 7, 10, 73] (L' := [(0, .slice wa nw wcap), (1, .slice oa no ocap), (2, .slice (some ⟨b, off, none⟩) nc ccap), (7, .pointer (some ⟨bv, 0, none⟩)), (10, .int .i64 (k : Int)), (73, .bool true)]) (by kernel_rfl)
        refine d_done (by kernel_rfl) ?_
        refine block_normal ?_
        refine then_normal ?_
        -- region 12
        refine wp_region_lit ?_
        refine l_run 1 [0, 1, 2, 7, 10, 73, 74] [(0, .slice wa nw wcap), (1, .slice oa no ocap), (2, .slice (some ⟨b, off, none⟩) nc ccap), (7, .pointer (some ⟨bv, 0, none⟩)), (10, .int .i64 (k : Int)), (73, .bool true), (74, .int .i64 (k : Int))] K (by kernel_rfl) fun a K => ?_
        refine l_val 75 (.int .i64 ((k : Int) + 1)) K (by kernel_rfl) (ex_as (v := .int .i64 (IntKind.wrap .i64 ((k : Int) + 1))) (by kernel_rfl) (congrArg _ (IntWalk.i64_in _ (by omega)))) fun a K => ?_
        refine l_run 1 [0, 1, 2, 7, 10, 73] [(0, .slice wa nw wcap), (1, .slice oa no ocap), (2, .slice (some ⟨b, off, none⟩) nc ccap), (7, .pointer (some ⟨bv, 0, none⟩)), (10, .int .i64 ((k : Int) + 1)), (73, .bool true)] K (by kernel_rfl) fun a K => ?_
        refine wpList_nil ?_
        have K := K.cut [0, 1, 2, 7, 10] (L' := [(0, .slice wa nw wcap), (1, .slice oa no ocap), (2, .slice (some ⟨b, off, none⟩) nc ccap), (7, .pointer (some ⟨bv, 0, none⟩)), (10, .int .i64 ((k : Int) + 1))]) (by kernel_rfl)
        refine then_normal ⟨k + 1, by omega, by omega, K.as (by rfl), ?_, ?_⟩
        · have h := hob.set (33312 + k) (.int .u16 (upTo (cgOf cs) (k + 1) k))
          rw [vidC_cg _ _ _ _ _ (upTo_step _ k), upTo_at] at h
          have e : cgOf cs k = (cs.getD (k % nc) 0 + (q : Int)) % 65536 % 32768 := by unfold cgOf; rw [← HNC.out, if_neg (by omega), ← HQ.out]
          rw [e] at h
          exact h
        · exact below_drewN' (hbel.setCell (p := ⟨bv, 33312 + k, none⟩) (Nat.le_refl _) _) 1
      · refine wp_seq ?_
        refine wp_seq ?_
        -- region 11
        refine wp_region_lit ?_
        refine l_run 1 [0, 1, 2, 7, 10, 67] [(0, .slice wa nw wcap), (1, .slice oa no ocap), (2, .slice ca nc ccap), (7, .pointer (some ⟨bv, 0, none⟩)), (10, .int .i64 (k : Int)), (67, .int .i64 (k : Int))] K (by kernel_rfl) fun a K => ?_
        refine l_val 68 (.bool true) K (by kernel_rfl) (ex_as (v := .bool (decide ((k : Int) < 256))) (by kernel_rfl) (congrArg _ (decide_eq_true (by omega)))) fun a K => ?_
        refine l_run 3 [0, 1, 2, 7, 10, 69, 71] [(0, .slice wa nw wcap), (1, .slice oa no ocap), (2, .slice ca nc ccap), (7, .pointer (some ⟨bv, 0, none⟩)), (10, .int .i64 (k : Int)), (69, .bool true), (71, .int .i64 (nc : Int))] K (by kernel_rfl) fun a K => ?_
        refine l_val 72 (.bool false) K (by kernel_rfl) (ex_as (v := .bool (decide ((nc : Int) > 0))) (by kernel_rfl) (congrArg _ (decide_eq_false (by omega)))) fun a K => ?_
        refine l_run 1 [0, 1, 2, 7, 10, 73] [(0, .slice wa nw wcap), (1, .slice oa no ocap), (2, .slice ca nc ccap), (7, .pointer (some ⟨bv, 0, none⟩)), (10, .int .i64 (k : Int)), (73, .bool false)] K (by kernel_rfl) fun a K => ?_
        refine wpList_nil ?_
        refine then_normal ?_
        refine v_false K rfl rfl ?_
        refine wp_exit ?_
        refine then_exit ?_
        refine then_exit ?_
        refine block_exit ?_
        have K := K.cut [0, 1, 2, 7] (L' := [(0, .slice wa nw wcap), (1, .slice oa no ocap), (2, .slice ca nc ccap), (7, .pointer (some ⟨bv, 0, none⟩))]) (by kernel_rfl)
        exact ⟨K, hob.congr (vidC_fullC (upTo_ok _ (Or.inr fun i => by unfold cgOf; rw [if_pos (by rw [← HNC.out]; omega)]))), hbel⟩
    · refine wp_seq ?_
      refine wp_seq ?_
      -- region 11
      refine wp_region_lit ?_
      refine l_run 1 [0, 1, 2, 7, 10, 67] [(0, .slice wa nw wcap), (1, .slice oa no ocap), (2, .slice ca nc ccap), (7, .pointer (some ⟨bv, 0, none⟩)), (10, .int .i64 (k : Int)), (67, .int .i64 (k : Int))] K (by kernel_rfl) fun a K => ?_
      refine l_val 68 (.bool false) K (by kernel_rfl) (ex_as (v := .bool (decide ((k : Int) < 256))) (by kernel_rfl) (congrArg _ (decide_eq_false (by omega)))) fun a K => ?_
      refine l_run 5 [0, 1, 2, 7, 10, 73] [(0, .slice wa nw wcap), (1, .slice oa no ocap), (2, .slice ca nc ccap), (7, .pointer (some ⟨bv, 0, none⟩)), (10, .int .i64 (k : Int)), (73, .bool false)] K (by kernel_rfl) fun a K => ?_
      refine wpList_nil ?_
      refine then_normal ?_
      refine v_false K rfl rfl ?_
      refine wp_exit ?_
      refine then_exit ?_
      refine then_exit ?_
      refine block_exit ?_
      have K := K.cut [0, 1, 2, 7] (L' := [(0, .slice wa nw wcap), (1, .slice oa no ocap), (2, .slice ca nc ccap), (7, .pointer (some ⟨bv, 0, none⟩))]) (by kernel_rfl)
      exact ⟨K, hob.congr (vidC_fullC (upTo_ok _ (Or.inl (by omega)))), hbel⟩
  rintro a w1 ⟨K, hob, hbel⟩
  refine wp_seq ?_
  -- region 14
  refine wp_region_lit ?_
  refine l_run 2 [0, 1, 2, 7, 6] [(0, .slice wa nw wcap), (1, .slice oa no ocap), (2, .slice ca nc ccap), (7, .pointer (some ⟨bv, 0, none⟩)), (6, .pointer (some ⟨bv, 0, none⟩))] K (by kernel_rfl) fun a K => ?_
  refine wpList_nil ?_
  refine then_normal ?_
  refine wp_ret ?_
  exact v_ret1 K rfl rfl ⟨bv, rfl, Nat.le_of_eq HBV.out.symm, hob, HBV.out ▸ hbel⟩
end Go.Proofs.Ytoaecfaackkicaa
