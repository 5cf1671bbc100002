/- The walk of the program's line of sprites. -/
import Derived.Test.YtoaecfaackkicaaFindB
namespace Go.Proofs.Ytoaecfaackkicaa
open Go Go.RowKit

def zprog : Nat → Value := fun i => if i < 1028 then zline i else if i = 1028 then .pointer none else if i = 1029 then .pointer none else .int .i64 0
theorem Try.infoPL : Try.prog.info? 66 = some Try.t66 := by kernel_rfl
theorem Try.lenPL : (zcells Try.t66).length = 1031 := by kernel_rfl
theorem Try.chkPL : chkAll zprog (zcells Try.t66) 0 = true := by kernel_rfl
theorem Try.zeroPL (w : World) : (zeroValue 66).run Try.prog w = .ok (.agg (blk 1031 zprog)) w := zero_run Try.infoPL Try.lenPL (by decide) Try.chkPL w
theorem progC_zero (bv bs so : Nat) (y : Int) : ∀ i, i < 1031 → upd (upd (upd zprog 1028 (.pointer (some ⟨bv, 0, none⟩))) 1029 (.pointer (some ⟨bs, so, none⟩))) 1030 (.int .i64 y) i = progC (.slice none 0 0) (.slice none 0 0) false false (fun _ => Dt.none) bv bs so y i := by
  intro i hi
  unfold upd zprog progC
  by_cases h1 : i = 1030
  · subst h1; rfl
  · rw [if_neg h1]
    by_cases h2 : i = 1029
    · subst h2; rfl
    · rw [if_neg h2]
      by_cases h3 : i = 1028
      · subst h3; rfl
      · rw [if_neg h3, if_pos (by omega), if_pos (by omega)]; rfl
theorem progC_line {fv sv : Value} {ro late : Bool} {d : Nat → Dt} {bv bs so : Nat} {y : Int} : ∀ i, i < 1028 → progC fv sv ro late d bv bs so y (0 + i) = lineC fv sv ro late d i := by
  intro i hi
  unfold progC
  rw [Nat.zero_add, if_pos hi]

def Mem.pdots (M : Mem) (first : Nat) (y : Int) : Nat → Dt := paintL M (fun _ => Dt.none) (M.slivers first y)

set_option maxRecDepth 100000 in
set_option maxHeartbeats 4000000 in
theorem pline_any (bv bs so first : Nat) (y : Int) (M : Mem) (hf : first < 128) (hy0 : 0 ≤ y) (hy1 : y ≤ 255) (w : World)
    (hv : VidAt w bv M.vr M.oa M.cg) (hcg : ∀ i, 0 ≤ M.cg i ∧ M.cg i ≤ 65535) (hr : w.cell? ⟨bs, so + 1, none⟩ = some (.int .u8 M.r1)) (hr0 : 0 ≤ M.r1) (hr1 : M.r1 ≤ 255) :
    Calls Try.prog 8 #[.pointer (some ⟨bv, 0, none⟩), .pointer (some ⟨bs, so, none⟩), .int .i64 first, .int .i64 y] w fun e w' => ∃ fv sv, e = .returned (.agg (blk 1028 (lineC fv sv (M.over first y) (M.late first y) (M.pdots first y)))) ∧
      OwnI w.heap.size w' fv (ints (M.found first y)) ∧ OwnS w.heap.size w' sv (M.slivers first y) ∧ Below w.heap.size w w' := by
  have hbv := hv.lt
  have hbs : bs < w.heap.size := block_lt_of_cell hr
  have g1 : decide ((first : Int) < 0) = false := decide_eq_false (by omega)
  have g2 : decide (128 ≤ (first : Int)) = false := decide_eq_false (by omega)
  have g3 : decide (y < 0) = false := decide_eq_false (by omega)
  have g4 : decide (256 ≤ y) = false := decide_eq_false (by omega)
  have hzz := Try.zeroLine
  have hzp := Try.zeroPL
  obtain ⟨W0, hW0⟩ : ∃ W0, W0 = (w.alloc (.cells (blk 1028 zline) 41)).alloc (.cells (blk 1031 (upd (upd (upd zprog 1028 (.pointer (some ⟨bv, 0, none⟩))) 1029 (.pointer (some ⟨bs, so, none⟩))) 1030 (.int .i64 y))) 66) := ⟨_, rfl⟩
  have hz : W0.heap.size = w.heap.size + 2 := by rw [hW0]; simp
  have hbW : Below w.heap.size w W0 := by rw [hW0]; exact ((Below.refl _ w).alloc (Nat.le_refl _) _).alloc (by simp) _
  have ho8 : ObjAt W0 w.heap.size 41 1028 zline := by rw [hW0]; exact heap_alloc2_old w _ _
  have ho9 : ObjAt W0 (w.heap.size + 1) 66 1031 (progC (.slice none 0 0) (.slice none 0 0) false false (fun _ => Dt.none) bv bs so y) := ObjAt.congr (by rw [hW0]; exact heap_alloc2_new w _ _) (progC_zero bv bs so y)
  have HW0 := Lib.hid hW0
  have H8 := Lib.hid ho8
  have H9 := Lib.hid ho9
  clear hW0 ho8 ho9
  have HV := Lib.hid hv
  have HR := Lib.hid hr
  have HCG := Lib.hid hcg
  clear hv hr hcg
  go_enter Try.func8, Try.ntmps8
  go_wp2_with fail
  rw [← HW0.out]
  clear g1 g2 g3 g4 hzp
  refine (find_any (w.heap.size + 1) bv bs so first y M hf HV.out.oamB (fun _ => Dt.none) _ H9.out (HV.out.below hbW hbv) ((hbW.cell (p := ⟨bs, so + 1, none⟩) hbs).trans HR.out) hr0 hr1 (by omega) (by omega)).mono ?_
  rintro e w1 ⟨rfl, fv, o1, own1, b1⟩
  have HO1 := Lib.hid o1
  have HW1 := Lib.hid own1
  have B1 := Lib.hid b1
  have hbW1 := hbW.trans (b1.below (B := w.heap.size) (by omega) (by omega))
  have HB1 := Lib.hid hbW1
  have hs1 := b1.size
  clear o1 own1 b1 hbW1
  go_wp2_with fail
  refine (fetch_any (w.heap.size + 1) bv bs so y M fv (M.over first y) (M.found first y) (fun n hn => (mem_found hn).1) (found_len M first y) (fun _ => Dt.none) W0.heap.size _ HO1.out HW1.out (HV.out.below HB1.out hbv) ((HB1.out.cell (p := ⟨bs, so + 1, none⟩) hbs).trans HR.out) hr0 hr1 (by omega) (by omega)).mono ?_
  rintro e w2 ⟨rfl, sv, o2, own2, b2⟩
  have hfv2 := b2.own HW1.out (ownsRow_ne HW1.out HO1.out (by decide))
  have hbW2 := HB1.out.trans (b2.below (B := w.heap.size) (by omega) (by omega))
  have hs2 := b2.size
  have HO2 := Lib.hid o2
  have HW2 := Lib.hid own2
  have HF2 := Lib.hid hfv2
  have HB2 := Lib.hid hbW2
  have B2 := Lib.hid b2
  clear o2 own2 b2 hfv2 hbW2
  go_wp2_with fail
  refine (paint_any (w.heap.size + 1) bv bs so y M fv sv (M.over first y) (M.late first y) (M.slivers first y) (fun s hs => (slivers_ok hs).1) (slivers_len M first y) (fun _ => Dt.none) w1.heap.size _ HO2.out HW2.out (HV.out.below HB2.out hbv) HCG.out ((HB2.out.cell (p := ⟨bs, so + 1, none⟩) hbs).trans HR.out) hr0 hr1 (by omega) (by omega)).mono ?_
  rintro e w3 ⟨rfl, o3, b3⟩
  have hfv3 := b3.own HF2.out (ownsRow_ne HF2.out HO2.out (by decide))
  have hsv3 := b3.own HW2.out (ownsRow_ne HW2.out HO2.out (by decide))
  have hbW3 := HB2.out.trans (b3.below (B := w.heap.size) (by omega) (by omega))
  have h8 : ObjAt w3 w.heap.size 41 1028 zline := b3.obj (B2.out.obj (B1.out.obj H8.out (by omega)) (by omega)) (by omega)
  have H83 := Lib.hid h8
  have HO3 := Lib.hid o3
  have HF3 := Lib.hid hfv3
  have HS3 := Lib.hid hsv3
  have HB3 := Lib.hid hbW3
  obtain ⟨fa, fcap, rfl, -, -, -⟩ := OwnI.form hfv3
  obtain ⟨sa, scap, rfl, -, -, -⟩ := OwnS.form hsv3
  clear h8 o3 hfv3 hsv3 hbW3 b3
  go_wp2_with (first | refine wpList_load_obj rfl _ rfl rfl HO3.out (by decide) Try.sizeLine Try.underlying41 rfl ?_ | (refine wpList_store_obj rfl _ _ rfl rfl rfl H83.out (by decide) Try.sizeLine (fun i hi => by rw [progC_line i hi]; exact lineC_one _ _ rfl rfl _ _ _ _) ?_; intro w6 h6 hc6))
  have h9 : ObjAt w6 w.heap.size 41 1028 (lineC _ _ (M.over first y) (M.late first y) (M.pdots first y)) := h6.congr fun i hi => by
    rw [if_pos (by omega), show i - 0 = i by omega]
    exact progC_line i hi
  refine bodyPost_ret (results_cell_row rfl _ _ w.heap.size _ _ _ _ rfl h9 Try.underlying41 rfl (by rw [size_blk]; exact Try.sizeLine)) rfl ⟨_, _, rfl, ?_, ?_, ?_⟩
  · exact OwnI.mono (hc6.but.own HF3.out (ownsRow_ne HF3.out H83.out (by decide))) (by omega)
  · exact OwnS.mono (hc6.but.own HS3.out (ownsRow_ne HS3.out H83.out (by decide))) (by omega)
  · exact below_chg HB3.out hc6 (Nat.le_refl _)

/-- Where the first sprite or the line's number is none of theirs. -/
def outB (first y : Int) : Bool := decide (first < 0) || (decide (127 < first) || (decide (y < 0) || decide (255 < y)))
theorem outB_cases {first y : Int} (h : outB first y = true) : decide (first < 0) = true ∨ (decide (first < 0) = false ∧ decide (127 < first) = true) ∨ (decide (first < 0) = false ∧ decide (127 < first) = false ∧ decide (y < 0) = true) ∨
    (decide (first < 0) = false ∧ decide (127 < first) = false ∧ decide (y < 0) = false ∧ decide (255 < y) = true) := by
  unfold outB at h
  cases h1 : decide (first < 0) <;> cases h2 : decide (127 < first) <;> cases h3 : decide (y < 0) <;> cases h4 : decide (255 < y) <;> simp_all

set_option maxRecDepth 100000 in
set_option maxHeartbeats 4000000 in
theorem pline_no (a b : Addr) (first y : Int) (h : outB first y = true) (w : World) :
    Calls Try.prog 8 #[.pointer (some a), .pointer (some b), .int .i64 first, .int .i64 y] w fun e w' => e = .returned (.agg (blk 1028 zline)) ∧ Below w.heap.size w w' := by
  have hzz := Try.zeroLine
  have e1 : decide (128 ≤ first) = decide (127 < first) := decide_eq_decide.2 (by omega)
  have e2 : decide (256 ≤ y) = decide (255 < y) := decide_eq_decide.2 (by omega)
  have ho8 : ObjAt (w.alloc (.cells (blk 1028 zline) 41)) w.heap.size 41 1028 zline := heap_alloc_new w _
  have H8 := Lib.hid ho8
  rcases outB_cases h with h1 | ⟨h1, h2⟩ | ⟨h1, h2, h3⟩ | ⟨h1, h2, h3, h4⟩
  all_goals
    try rw [← e1] at h2
    try rw [← e2] at h4
    clear e1 e2 h ho8
    go_enter Try.func8, Try.ntmps8
    go_wp2_with (refine wpList_store_obj rfl _ _ rfl rfl rfl H8.out (by decide) Try.sizeLine (fun i _ => lineC_one _ _ rfl rfl _ _ _ _) ?_; intro w6 h6 hc6)
    have h9 : ObjAt w6 w.heap.size 41 1028 zline := h6.congr fun i hi => by
      rw [if_pos (by omega), show i - 0 = i by omega]
    refine bodyPost_ret (results_cell_row rfl _ _ w.heap.size _ _ _ _ rfl h9 Try.underlying41 rfl (by rw [size_blk]; exact Try.sizeLine)) rfl ⟨rfl, ?_⟩
    exact below_chg ((Below.refl _ w).alloc (Nat.le_refl _) _) hc6 (Nat.le_refl _)
set_option maxRecDepth 100000 in
set_option maxHeartbeats 4000000 in
theorem rline_no (a b : Addr) (first y : Int) (h : outB first y = true) (w : World) :
    Calls Try.prog 10 #[.pointer (some a), .pointer (some b), .int .i64 first, .int .i64 y] w fun e w' => e = .returned (.agg (blk 1028 zline)) ∧ Below w.heap.size w w' := by
  have hzz := Try.zeroLine
  have ho8 : ObjAt (w.alloc (.cells (blk 1028 zline) 41)) w.heap.size 41 1028 zline := heap_alloc_new w _
  have H8 := Lib.hid ho8
  rcases outB_cases h with h1 | ⟨h1, h2⟩ | ⟨h1, h2, h3⟩ | ⟨h1, h2, h3, h4⟩
  all_goals
    clear h ho8
    go_enter Try.func10, Try.ntmps10
    go_wp2_with (refine wpList_store_obj rfl _ _ rfl rfl rfl H8.out (by decide) Try.sizeLine (fun i _ => lineC_one _ _ rfl rfl _ _ _ _) ?_; intro w6 h6 hc6)
    have h9 : ObjAt w6 w.heap.size 41 1028 zline := h6.congr fun i hi => by
      rw [if_pos (by omega), show i - 0 = i by omega]
    refine bodyPost_ret (results_cell_row rfl _ _ w.heap.size _ _ _ _ rfl h9 Try.underlying41 rfl (by rw [size_blk]; exact Try.sizeLine)) rfl ⟨rfl, ?_⟩
    exact below_chg ((Below.refl _ w).alloc (Nat.le_refl _) _) hc6 (Nat.le_refl _)
end Go.Proofs.Ytoaecfaackkicaa
