/- The walk of the document's line of sprites. -/
import Derived.Test.YtoaecfaackkicaaLine
namespace Go.Proofs.Ytoaecfaackkicaa
open Go Go.RowKit

theorem line_upd_fv (fv fv' sv : Value) (ro late : Bool) (d : Nat → Dt) : upd (lineC fv sv ro late d) 0 fv' = lineC fv' sv ro late d := by
  funext i; unfold upd lineC; by_cases h : i = 0 <;> simp [h]
theorem line_upd_sv (fv sv sv' : Value) (ro late : Bool) (d : Nat → Dt) : upd (lineC fv sv ro late d) 1 sv' = lineC fv sv' ro late d := by
  funext i; unfold upd lineC; by_cases h : i = 1 <;> simp [h]
theorem line_upd_ro (fv sv : Value) (ro ro' late : Bool) (d : Nat → Dt) : upd (lineC fv sv ro late d) 2 (.bool ro') = lineC fv sv ro' late d := by
  funext i; unfold upd lineC; by_cases h : i = 2 <;> simp [h]
theorem line_upd_late (fv sv : Value) (ro late late' : Bool) (d : Nat → Dt) : upd (lineC fv sv ro late d) 3 (.bool late') = lineC fv sv ro late' d := by
  funext i; unfold upd lineC; by_cases h : i = 3 <;> simp [h]
/-- What a walk needs of the line at block b. -/
theorem line_cells {w : World} {b t n : Nat} {fv sv : Value} {ro late : Bool} {d : Nat → Dt} (h : ObjAt w b t n (lineC fv sv ro late d)) (hn : 1028 ≤ n) :
    w.cell? ⟨b, 0, none⟩ = some fv ∧ w.cell? ⟨b, 1, none⟩ = some sv ∧ w.cell? ⟨b, 2, none⟩ = some (.bool ro) ∧ w.cell? ⟨b, 3, none⟩ = some (.bool late) :=
  ⟨h.cell (i := 0) (by omega), h.cell (i := 1) (by omega), h.cell (i := 2) (by omega), h.cell (i := 3) (by omega)⟩

def dput (d : Nat → Dt) (k : Nat) (x : Dt) : Nat → Dt := fun i => if i = k then x else d i
theorem line_upd_dot (fv sv : Value) (ro late : Bool) (d : Nat → Dt) (k : Nat) (x : Dt) :
    upd (upd (upd (upd (lineC fv sv ro late d) (4 + k * 4) (.bool x.see)) (4 + k * 4 + 1) (.int .u8 x.prio)) (4 + k * 4 + 2) (.int .u8 x.index)) (4 + k * 4 + 3) (.int .u16 x.colour) = lineC fv sv ro late (dput d k x) := by
  funext i
  unfold upd lineC dput dtc
  by_cases h0 : i < 4
  · rw [if_neg (by omega), if_neg (by omega), if_neg (by omega), if_neg (by omega)]
    by_cases h1 : i = 0
    · simp [h1]
    · by_cases h2 : i = 1
      · simp [h2]
      · by_cases h3 : i = 2
        · simp [h3]
        · have h4 : i = 3 := by omega
          simp [h4]
  · have e0 : ¬ i = 0 := by omega
    have e1 : ¬ i = 1 := by omega
    have e2 : ¬ i = 2 := by omega
    have e3 : ¬ i = 3 := by omega
    simp only [e0, e1, e2, e3, if_false]
    by_cases hk : (i - 4) / 4 = k
    · rw [if_pos hk]
      have hr : (i - 4) % 4 = 0 ∨ (i - 4) % 4 = 1 ∨ (i - 4) % 4 = 2 ∨ (i - 4) % 4 = 3 := by omega
      rcases hr with hr | hr | hr | hr
      · rw [if_neg (by omega), if_neg (by omega), if_neg (by omega), if_pos (by omega), if_pos hr]
      · rw [if_neg (by omega), if_neg (by omega), if_pos (by omega), if_neg (by omega), if_pos hr]
      · rw [if_neg (by omega), if_pos (by omega), if_neg (by omega), if_neg (by omega), if_pos hr]
      · rw [if_pos (by omega), if_neg (by omega), if_neg (by omega), if_neg (by omega)]
    · rw [if_neg hk, if_neg (by omega), if_neg (by omega), if_neg (by omega), if_neg (by omega)]
theorem lineC_congr {fv sv : Value} {ro late : Bool} {d d' : Nat → Dt} (h : ∀ x, x < 256 → d x = d' x) : ∀ i, i < 1028 → lineC fv sv ro late d i = lineC fv sv ro late d' i := by
  intro i hi
  unfold lineC
  rw [h ((i - 4) / 4) (by omega)]
theorem lineC_one (fv sv : Value) (hf : fv.oneCell' = true) (hs : sv.oneCell' = true) (ro late : Bool) (d : Nat → Dt) (i : Nat) : (lineC fv sv ro late d i).oneCell' = true := by
  unfold lineC dtc
  repeat' split
  all_goals first | assumption | rfl

set_option maxRecDepth 100000 in
set_option maxHeartbeats 4000000 in
theorem rline_any (bv bs so first : Nat) (y : Int) (M : Mem) (hf : first < 128) (hy0 : 0 ≤ y) (hy1 : y ≤ 255) (w : World)
    (hv : VidAt w bv M.vr M.oa M.cg) (hcg : ∀ i, 0 ≤ M.cg i ∧ M.cg i ≤ 65535) (hr : w.cell? ⟨bs, so + 1, none⟩ = some (.int .u8 M.r1)) (hr0 : 0 ≤ M.r1) (hr1 : M.r1 ≤ 255) :
    Calls Try.prog 10 #[.pointer (some ⟨bv, 0, none⟩), .pointer (some ⟨bs, so, none⟩), .int .i64 first, .int .i64 y] w fun e w' => ∃ fv sv, e = .returned (.agg (blk 1028 (lineC fv sv (M.over first y) (M.late first y) (M.rdots first y)))) ∧
      OwnI w.heap.size w' fv (ints (M.found first y)) ∧ OwnS w.heap.size w' sv (M.slivers first y) ∧ Below w.heap.size w w' := by
  have hbv := hv.lt
  have hbs : bs < w.heap.size := block_lt_of_cell hr
  have g1 : decide ((first : Int) < 0) = false := decide_eq_false (by omega)
  have g2 : decide (127 < (first : Int)) = false := decide_eq_false (by omega)
  have g3 : decide (y < 0) = false := decide_eq_false (by omega)
  have g4 : decide (255 < y) = false := decide_eq_false (by omega)
  have hzz := Try.zeroLine
  obtain ⟨W0, hW0⟩ : ∃ W0, W0 = (w.alloc (.cells (blk 1028 zline) 41)).alloc (.cells (blk 1028 zline) 41) := ⟨_, rfl⟩
  have hz : W0.heap.size = w.heap.size + 2 := by rw [hW0]; simp
  have hbW : Below w.heap.size w W0 := by rw [hW0]; exact ((Below.refl _ w).alloc (Nat.le_refl _) _).alloc (by simp) _
  have ho8 : ObjAt W0 w.heap.size 41 1028 zline := by rw [hW0]; exact heap_alloc2_old w _ _
  have ho9 : ObjAt W0 (w.heap.size + 1) 41 1028 zline := by rw [hW0]; exact heap_alloc2_new w _ _
  have HW0 := Lib.hid hW0
  have HV := Lib.hid hv
  have HR := Lib.hid hr
  clear hW0 hv hr
  go_enter Try.func10, Try.ntmps10
  go_wp2_with fail
  rw [← HW0.out]
  refine (found_any bv bs so first y M.vr M.oa M.cg M.r1 hf _ (HV.out.below hbW hbv) ((hbW.cell (p := ⟨bs, so + 1, none⟩) hbs).trans HR.out) hr0 hr1).mono ?_
  rintro e w1 ⟨v, rfl, hown, hb1⟩
  clear HW0
  obtain ⟨fa, fcap, rfl, hfc, hfm, hfx⟩ := hown.form
  have o8 := ho8.below hb1 (by omega)
  have o9 := ho9.below hb1 (by omega)
  obtain ⟨c0, c1, c2, c3⟩ := line_cells o9 (Nat.le_refl _)
  have hfz := o9.frozen
  have hb1' : Below w.heap.size w w1 := hbW.trans (hb1.mono (by omega))
  rw [ints_len] at hfc hfx hown
  unfold maxLen at hfm
  rw [ints_len]
  have hlen : (candTo M.oa M.r1 first y 128).length ≤ 128 := candTo_len _ _ _ _ _
  have HO8 := Lib.hid o8
  have HO9 := Lib.hid o9
  have HOWN := Lib.hid hown
  have HFX := Lib.hid hfx
  have HB1 := Lib.hid hb1'
  obtain ⟨n, hn⟩ : ∃ n, n = (candTo M.oa M.r1 first y 128).length := ⟨_, rfl⟩
  rw [← hn] at hfc hlen ⊢
  have HN := Lib.hid hn
  clear hn o8 o9 hown hfx ho8 ho9 hbW g1 g2 g3 g4 hb1' hb1
  have HZ := Lib.hid hz
  clear hz
  obtain ⟨m, hm⟩ : ∃ m, m = (M.found first y).length := ⟨_, rfl⟩
  have hmm : m = min 32 n := by rw [hm, HN.out]; unfold Mem.found Mem.cands; rw [List.length_take]
  have hfo : OwnI W0.heap.size w1 (.slice fa m fcap) (ints (M.found first y)) := by
    have h1 := HOWN.out
    rw [← HN.out] at h1
    rcases HFX.out with h0 | ⟨g, rfl, -⟩
    · have hnil : M.found first y = [] := by unfold Mem.found Mem.cands; rw [List.length_eq_zero_iff.1 h0]; rfl
      have hn0 : n = 0 := by rw [HN.out]; exact h0
      have hm0 : m = 0 := by omega
      rw [hnil, hm0]
      rw [hn0, List.length_eq_zero_iff.1 h0] at h1
      exact h1
    · have := OwnI.take (m := m) h1 HN.out (by omega)
      rw [show M.found first y = (candTo M.oa M.r1 first y 128).take m by rw [hmm]; unfold Mem.found Mem.cands; by_cases h : 32 ≤ n
                                                                          · rw [Nat.min_eq_left h]
                                                                          · rw [Nat.min_eq_right (by omega), HN.out, List.take_length, List.take_of_length_le (by have := HN.out; omega)]]
      exact this
  have hro : M.over first y = decide (32 < n) := by unfold Mem.over Mem.cands; rw [← HN.out]
  have HFO := Lib.hid hfo
  have HRO := Lib.hid hro
  have HM := Lib.hid hm
  have HMM := Lib.hid hmm
  clear hfo hro hm hmm HOWN HFX
  by_cases h32 : 32 < n
  · have t1 : decide (32 < (n : Int)) = true := decide_eq_true (by omega)
    have hcap : (32 : Int) ≤ fcap := by omega
    go_wp2_with fail
    obtain ⟨W, hW⟩ : ∃ W, W = (((w1.setCell ⟨w.heap.size + 1, 0, none⟩ (.slice fa n fcap)).setCell ⟨w.heap.size + 1, 0, none⟩ (.slice fa 32 fcap)).setCell ⟨w.heap.size + 1, 2, none⟩ (.bool true)) := ⟨_, rfl⟩
    rw [← hW]
    obtain rfl : m = 32 := by have := HMM.out; omega
    have hoW : ObjAt W (w.heap.size + 1) 41 1028 (lineC (.slice fa 32 fcap) (.slice none 0 0) (M.over first y) false fun _ => Dt.none) := by
      rw [hW, HRO.out, decide_eq_true h32, ← line_upd_ro _ _ false, ← line_upd_fv (.slice fa n fcap), ← line_upd_fv (.slice none 0 0)]
      exact ((HO9.out.set _ _).set _ _).set _ _
    have hcW : Chg (w.heap.size + 1) w1 W := by rw [hW]; exact ((Chg.setCell _ _ _ _).trans (Chg.setCell _ _ _ _)).trans (Chg.setCell _ _ _ _)
    have hBW : Below w.heap.size w W := below_chg HB1.out hcW (by omega)
    have hfW : OwnI W0.heap.size W (.slice fa 32 fcap) (ints (M.found first y)) := hcW.but.own HFO.out (ownsRow_ne HFO.out HO9.out (by decide))
    obtain ⟨c0', c1', c2', c3'⟩ := line_cells hoW (Nat.le_refl _)
    have HFW := Lib.hid hfW
    have HBW := Lib.hid hBW
    have HOW := Lib.hid hoW
    clear hfW hBW c0 c1 c2 c3 hfz hoW t1
    refine (slivers_any bv bs so y M.vr M.oa M.cg M.r1 (M.found first y) (fun n hn => (mem_found hn).1) (by have := found_len M first y; omega) W0.heap.size _ W HFW.out (HV.out.below HBW.out hbv) ((HBW.out.cell (p := ⟨bs, so + 1, none⟩) hbs).trans HR.out) hr0 hr1).mono ?_
    rintro e w2 ⟨v, rfl, hown2, hb2⟩
    obtain ⟨sa, scap, rfl, hsc, hsm, hsx⟩ := hown2.form
    unfold maxLen at hsm
    have hl2 : (slAll M.oa M.r1 y (M.found first y)).length ≤ 1024 := by have h1 := slAll_len M.oa M.r1 y (M.found first y); have h2 := found_len M first y; omega
    have hsl : M.slivers first y = (slAll M.oa M.r1 y (M.found first y)).take 34 := rfl
    have hla : M.late first y = decide (34 < (slAll M.oa M.r1 y (M.found first y)).length) := rfl
    obtain ⟨SS, hSS⟩ : ∃ SS, SS = slAll M.oa M.r1 y (M.found first y) := ⟨_, rfl⟩
    rw [← hSS] at hown2 hsc hsx hl2 hsl hla ⊢
    obtain ⟨q, hq⟩ : ∃ q, q = SS.length := ⟨_, rfl⟩
    have hown3 : OwnS W.heap.size w2 (.slice sa q scap) SS := by rw [hq]; exact hown2
    rw [← hq] at hsc hla hl2 ⊢
    have o9 := HOW.out.below hb2 HOW.out.lt
    obtain ⟨c0, c1, c2, c3⟩ := line_cells o9 (Nat.le_refl _)
    have hfz := o9.frozen
    have HO92 := Lib.hid o9
    have HSL := Lib.hid hsl
    have HLA := Lib.hid hla
    have HQ := Lib.hid hq
    have HSSX : Hid (SS.length = 0 ∨ ∃ g, sa = some ⟨g, 0, none⟩) := by
      rcases hsx with h | ⟨g, h, -⟩
      · exact Or.inl h
      · exact Or.inr ⟨g, h⟩
    have HOWN3 := Lib.hid hown3
    clear hown2 hown3 hsx hSS hq hsl hla o9 c0' c1' c2' c3'
    by_cases h34 : 34 < q
    · have t2 : decide (34 < (q : Int)) = true := decide_eq_true (by omega)
      have hcap2 : (34 : Int) ≤ scap := by omega
      have hso : OwnS W.heap.size w2 (.slice sa 34 scap) (M.slivers first y) := by
        rcases HSSX.out with h0 | ⟨g, rfl⟩
        · have := HQ.out; omega
        · rw [HSL.out]; exact OwnS.take HOWN3.out HQ.out (by omega)
      have HSO := Lib.hid hso
      clear hso HSSX
      go_wp2_with fail
      obtain ⟨V, hV⟩ : ∃ V, V = (((w2.setCell ⟨w.heap.size + 1, 1, none⟩ (.slice sa q scap)).setCell ⟨w.heap.size + 1, 1, none⟩ (.slice sa 34 scap)).setCell ⟨w.heap.size + 1, 3, none⟩ (.bool true)) := ⟨_, rfl⟩
      rw [← hV]
      have hoV : ObjAt V (w.heap.size + 1) 41 1028 (lineC (.slice fa 32 fcap) (.slice sa 34 scap) (M.over first y) (M.late first y) fun _ => Dt.none) := by
        rw [hV, HLA.out, decide_eq_true h34, ← line_upd_late _ _ _ false, ← line_upd_sv _ (.slice sa q scap), ← line_upd_sv _ (.slice none 0 0)]
        exact ((HO92.out.set _ _).set _ _).set _ _
      have hcV : Chg (w.heap.size + 1) w2 V := by rw [hV]; exact ((Chg.setCell _ _ _ _).trans (Chg.setCell _ _ _ _)).trans (Chg.setCell _ _ _ _)
      clear c0 c1 c2 c3 hfz
      · skip
        obtain ⟨d0, d1, d2, d3⟩ := line_cells hoV (Nat.le_refl _)
        have hfV : OwnI W0.heap.size V (.slice fa 32 fcap) (ints (M.found first y)) := hcV.but.own (HFW.out.full hb2) (ownsRow_ne (HFW.out.full hb2) (HOW.out.below hb2 HOW.out.lt) (by decide))
        have hsV : OwnS W.heap.size V (.slice sa 34 scap) (M.slivers first y) := hcV.but.own HSO.out (ownsRow_ne HSO.out (HOW.out.below hb2 HOW.out.lt) (by decide))
        have hBV : Below w.heap.size w V := below_chg (HBW.out.trans (hb2.mono HBW.out.size)) hcV (by omega)
        have h8V : ObjAt V w.heap.size 41 1028 zline := hcV.obj (by omega) ((hcW.obj (by omega) HO8.out).below hb2 (by have := (hcW.obj (g := w.heap.size) (by omega) HO8.out).lt; omega))
        have HFV := Lib.hid hfV
        have HSV := Lib.hid hsV
        have HBV := Lib.hid hBV
        have H8V := Lib.hid h8V
        have HOV := Lib.hid hoV
        have hWsz : w.heap.size + 2 ≤ W.heap.size := by have := HOW.out.lt; omega
        have HWS := Lib.hid hWsz
        clear hfV hsV hBV h8V hoV d0 d1 d2 d3 hV hcV hb2 hcW hWsz
        go_loopw [10] (fun i wr => ∃ k : Nat, k ≤ 256 ∧ i = .int .i64 k ∧ ObjAt wr (w.heap.size + 1) 41 1028 (lineC (.slice fa 32 fcap) (.slice sa 34 scap) (M.over first y) (M.late first y) (fun x => if x < k then M.rdots first y x else Dt.none)) ∧ But (w.heap.size + 1) V wr) (fun i _ => 256 - (intOf i).toNat)
        case atStart => exact ⟨0, by omega, rfl, by simpa using HOV.out, But.refl _ _⟩
        case round =>
          obtain ⟨k, hk, rfl, hobj, hbut⟩ := hrel
          by_cases hlt : k < 256
          · have t3 : decide ((k : Int) < 256) = true := decide_eq_true (by omega)
            have k0 : (0 : Int) ≤ (k : Int) := by omega
            have k1 : (k : Int) < 256 := by omega
            have HOB := Lib.hid hobj
            clear hobj
            go_wp2_with (refine wpList_load_obj rfl _ rfl rfl HOB.out (by decide) Try.sizeLine Try.underlying41 rfl ?_)
            try simp only [Nat.zero_add]
            have hbw : Below w.heap.size w wr := HBV.out.trans (hbut.below (by omega) HBV.out.size)
            refine (dot_any bv bs so y k M (M.found first y) (M.slivers first y) (fun n hn => (mem_found hn).1) (by have := found_len M first y; omega) (fun s hs => (slivers_ok hs).1) (by have := slivers_len M first y; omega) W0.heap.size W.heap.size (.slice fa 32 fcap) (.slice sa 34 scap) _ rfl rfl (by omega) (by omega) _ (hbut.own HFV.out (ownsRow_ne HFV.out HOV.out (by decide))) (hbut.own HSV.out (ownsRow_ne HSV.out HOV.out (by decide))) (HV.out.below hbw hbv) hcg ((hbw.cell (p := ⟨bs, so + 1, none⟩) hbs).trans HR.out) hr0 hr1).mono ?_
            rintro e w5 ⟨rfl, hb5⟩
            obtain ⟨D, hD⟩ : ∃ D, D = rdotL M (M.slivers first y) k (M.found first y) := ⟨_, rfl⟩
            rw [← hD]
            simp only [Dt.cs]
            have HD := Lib.hid hD
            have o5 := HOB.out.below hb5 HOB.out.lt
            have e0 := o5.cell (i := 4 + k * 4) (by omega)
            have e1 := o5.cell (i := 4 + k * 4 + 1) (by omega)
            have e2 := o5.cell (i := 4 + k * 4 + 2) (by omega)
            have e3 := o5.cell (i := 4 + k * 4 + 3) (by omega)
            have hfz5 := o5.frozen
            have HO5 := Lib.hid o5
            clear hD o5 hbw
            go_wp2_with fail
            go_roundw
            case rel =>
              refine ⟨k + 1, by omega, by go_num, ?_, ((((hbut.grow hb5).setCell _ _).setCell _ _).setCell _ _).setCell _ _⟩
              have h := (((HO5.out.set (4 + k * 4) (.bool D.see)).set (4 + k * 4 + 1) (.int .u8 D.prio)).set (4 + k * 4 + 2) (.int .u8 D.index)).set (4 + k * 4 + 3) (.int .u16 D.colour)
              rw [line_upd_dot] at h
              have e : dput (fun x => if x < k then M.rdots first y x else Dt.none) k D = fun x => if x < k + 1 then M.rdots first y x else Dt.none := by
                funext i
                unfold dput
                by_cases h1 : i = k
                · subst h1; rw [if_pos rfl, if_pos (by omega), HD.out]; rfl
                · rw [if_neg h1]
                  show (if i < k then M.rdots first y i else Dt.none) = _
                  by_cases h2 : i < k
                  · rw [if_pos h2, if_pos (by omega)]
                  · rw [if_neg h2, if_neg (by omega)]
              rw [e] at h
              exact h
            case measure => simp [intOf]; omega
          · obtain rfl : k = 256 := by omega
            have HOB := Lib.hid hobj
            have h8 := hbut.obj H8V.out (show w.heap.size ≠ w.heap.size + 1 by omega)
            clear hobj
            go_wp2_with (first | refine wpList_load_obj rfl _ rfl rfl HOB.out (by decide) Try.sizeLine Try.underlying41 rfl ?_ | (refine wpList_store_obj rfl _ _ rfl rfl rfl h8 (by decide) Try.sizeLine (fun i _ => lineC_one _ _ rfl rfl _ _ _ _) ?_; intro w6 h6 hc6))
            have h9 : ObjAt w6 w.heap.size 41 1028 (lineC (.slice fa 32 fcap) (.slice sa 34 scap) (M.over first y) (M.late first y) (M.rdots first y)) := h6.congr fun i hi => by
              rw [if_pos (by omega), show 0 + (i - 0) = i by omega]
              exact lineC_congr (fun x hx => if_pos hx) i hi
            refine bodyPost_ret (results_cell_row rfl _ _ w.heap.size _ _ _ _ rfl h9 Try.underlying41 rfl (by rw [size_blk]; exact Try.sizeLine)) rfl ⟨_, _, rfl, ?_, ?_, ?_⟩
            · have h := hbut.own HFV.out (ownsRow_ne HFV.out HOV.out (by decide))
              exact OwnI.mono (hc6.but.own h (ownsRow_ne h h8 (by decide))) (by have := HZ.out; omega)
            · have h := hbut.own HSV.out (ownsRow_ne HSV.out HOV.out (by decide))
              exact OwnS.mono (hc6.but.own h (ownsRow_ne h h8 (by decide))) (by have := HWS.out; omega)
            · exact below_chg (HBV.out.trans (hbut.below (by omega) HBV.out.size)) hc6 (Nat.le_refl _)
    · have t2 : decide (34 < (q : Int)) = false := decide_eq_false (by omega)
      have hso : OwnS W.heap.size w2 (.slice sa q scap) (M.slivers first y) := by
        rw [HSL.out, List.take_of_length_le (by have := HQ.out; omega)]; exact HOWN3.out
      have HSO := Lib.hid hso
      clear hso HSSX
      go_wp2_with fail
      obtain ⟨V, hV⟩ : ∃ V, V = (w2.setCell ⟨w.heap.size + 1, 1, none⟩ (.slice sa q scap)) := ⟨_, rfl⟩
      rw [← hV]
      have hoV : ObjAt V (w.heap.size + 1) 41 1028 (lineC (.slice fa 32 fcap) (.slice sa q scap) (M.over first y) (M.late first y) fun _ => Dt.none) := by
        rw [hV, HLA.out, decide_eq_false h34, ← line_upd_sv _ (.slice none 0 0)]
        exact HO92.out.set _ _
      have hcV : Chg (w.heap.size + 1) w2 V := by rw [hV]; exact Chg.setCell _ _ _ _
      clear c0 c1 c2 c3 hfz
      · skip
        obtain ⟨d0, d1, d2, d3⟩ := line_cells hoV (Nat.le_refl _)
        have hfV : OwnI W0.heap.size V (.slice fa 32 fcap) (ints (M.found first y)) := hcV.but.own (HFW.out.full hb2) (ownsRow_ne (HFW.out.full hb2) (HOW.out.below hb2 HOW.out.lt) (by decide))
        have hsV : OwnS W.heap.size V (.slice sa q scap) (M.slivers first y) := hcV.but.own HSO.out (ownsRow_ne HSO.out (HOW.out.below hb2 HOW.out.lt) (by decide))
        have hBV : Below w.heap.size w V := below_chg (HBW.out.trans (hb2.mono HBW.out.size)) hcV (by omega)
        have h8V : ObjAt V w.heap.size 41 1028 zline := hcV.obj (by omega) ((hcW.obj (by omega) HO8.out).below hb2 (by have := (hcW.obj (g := w.heap.size) (by omega) HO8.out).lt; omega))
        have HFV := Lib.hid hfV
        have HSV := Lib.hid hsV
        have HBV := Lib.hid hBV
        have H8V := Lib.hid h8V
        have HOV := Lib.hid hoV
        have hWsz : w.heap.size + 2 ≤ W.heap.size := by have := HOW.out.lt; omega
        have HWS := Lib.hid hWsz
        clear hfV hsV hBV h8V hoV d0 d1 d2 d3 hV hcV hb2 hcW hWsz
        go_loopw [10] (fun i wr => ∃ k : Nat, k ≤ 256 ∧ i = .int .i64 k ∧ ObjAt wr (w.heap.size + 1) 41 1028 (lineC (.slice fa 32 fcap) (.slice sa q scap) (M.over first y) (M.late first y) (fun x => if x < k then M.rdots first y x else Dt.none)) ∧ But (w.heap.size + 1) V wr) (fun i _ => 256 - (intOf i).toNat)
        case atStart => exact ⟨0, by omega, rfl, by simpa using HOV.out, But.refl _ _⟩
        case round =>
          obtain ⟨k, hk, rfl, hobj, hbut⟩ := hrel
          by_cases hlt : k < 256
          · have t3 : decide ((k : Int) < 256) = true := decide_eq_true (by omega)
            have k0 : (0 : Int) ≤ (k : Int) := by omega
            have k1 : (k : Int) < 256 := by omega
            have HOB := Lib.hid hobj
            clear hobj
            go_wp2_with (refine wpList_load_obj rfl _ rfl rfl HOB.out (by decide) Try.sizeLine Try.underlying41 rfl ?_)
            try simp only [Nat.zero_add]
            have hbw : Below w.heap.size w wr := HBV.out.trans (hbut.below (by omega) HBV.out.size)
            refine (dot_any bv bs so y k M (M.found first y) (M.slivers first y) (fun n hn => (mem_found hn).1) (by have := found_len M first y; omega) (fun s hs => (slivers_ok hs).1) (by have := slivers_len M first y; omega) W0.heap.size W.heap.size (.slice fa 32 fcap) (.slice sa q scap) _ rfl rfl (by omega) (by omega) _ (hbut.own HFV.out (ownsRow_ne HFV.out HOV.out (by decide))) (hbut.own HSV.out (ownsRow_ne HSV.out HOV.out (by decide))) (HV.out.below hbw hbv) hcg ((hbw.cell (p := ⟨bs, so + 1, none⟩) hbs).trans HR.out) hr0 hr1).mono ?_
            rintro e w5 ⟨rfl, hb5⟩
            obtain ⟨D, hD⟩ : ∃ D, D = rdotL M (M.slivers first y) k (M.found first y) := ⟨_, rfl⟩
            rw [← hD]
            simp only [Dt.cs]
            have HD := Lib.hid hD
            have o5 := HOB.out.below hb5 HOB.out.lt
            have e0 := o5.cell (i := 4 + k * 4) (by omega)
            have e1 := o5.cell (i := 4 + k * 4 + 1) (by omega)
            have e2 := o5.cell (i := 4 + k * 4 + 2) (by omega)
            have e3 := o5.cell (i := 4 + k * 4 + 3) (by omega)
            have hfz5 := o5.frozen
            have HO5 := Lib.hid o5
            clear hD o5 hbw
            go_wp2_with fail
            go_roundw
            case rel =>
              refine ⟨k + 1, by omega, by go_num, ?_, ((((hbut.grow hb5).setCell _ _).setCell _ _).setCell _ _).setCell _ _⟩
              have h := (((HO5.out.set (4 + k * 4) (.bool D.see)).set (4 + k * 4 + 1) (.int .u8 D.prio)).set (4 + k * 4 + 2) (.int .u8 D.index)).set (4 + k * 4 + 3) (.int .u16 D.colour)
              rw [line_upd_dot] at h
              have e : dput (fun x => if x < k then M.rdots first y x else Dt.none) k D = fun x => if x < k + 1 then M.rdots first y x else Dt.none := by
                funext i
                unfold dput
                by_cases h1 : i = k
                · subst h1; rw [if_pos rfl, if_pos (by omega), HD.out]; rfl
                · rw [if_neg h1]
                  show (if i < k then M.rdots first y i else Dt.none) = _
                  by_cases h2 : i < k
                  · rw [if_pos h2, if_pos (by omega)]
                  · rw [if_neg h2, if_neg (by omega)]
              rw [e] at h
              exact h
            case measure => simp [intOf]; omega
          · obtain rfl : k = 256 := by omega
            have HOB := Lib.hid hobj
            have h8 := hbut.obj H8V.out (show w.heap.size ≠ w.heap.size + 1 by omega)
            clear hobj
            go_wp2_with (first | refine wpList_load_obj rfl _ rfl rfl HOB.out (by decide) Try.sizeLine Try.underlying41 rfl ?_ | (refine wpList_store_obj rfl _ _ rfl rfl rfl h8 (by decide) Try.sizeLine (fun i _ => lineC_one _ _ rfl rfl _ _ _ _) ?_; intro w6 h6 hc6))
            have h9 : ObjAt w6 w.heap.size 41 1028 (lineC (.slice fa 32 fcap) (.slice sa q scap) (M.over first y) (M.late first y) (M.rdots first y)) := h6.congr fun i hi => by
              rw [if_pos (by omega), show 0 + (i - 0) = i by omega]
              exact lineC_congr (fun x hx => if_pos hx) i hi
            refine bodyPost_ret (results_cell_row rfl _ _ w.heap.size _ _ _ _ rfl h9 Try.underlying41 rfl (by rw [size_blk]; exact Try.sizeLine)) rfl ⟨_, _, rfl, ?_, ?_, ?_⟩
            · have h := hbut.own HFV.out (ownsRow_ne HFV.out HOV.out (by decide))
              exact OwnI.mono (hc6.but.own h (ownsRow_ne h h8 (by decide))) (by have := HZ.out; omega)
            · have h := hbut.own HSV.out (ownsRow_ne HSV.out HOV.out (by decide))
              exact OwnS.mono (hc6.but.own h (ownsRow_ne h h8 (by decide))) (by have := HWS.out; omega)
            · exact below_chg (HBV.out.trans (hbut.below (by omega) HBV.out.size)) hc6 (Nat.le_refl _)
  · have t1 : decide (32 < (n : Int)) = false := decide_eq_false (by omega)
    go_wp2_with fail
    obtain ⟨W, hW⟩ : ∃ W, W = (w1.setCell ⟨w.heap.size + 1, 0, none⟩ (.slice fa n fcap)) := ⟨_, rfl⟩
    rw [← hW]
    obtain rfl : m = n := by have := HMM.out; omega
    have hoW : ObjAt W (w.heap.size + 1) 41 1028 (lineC (.slice fa m fcap) (.slice none 0 0) (M.over first y) false fun _ => Dt.none) := by
      rw [hW, HRO.out, decide_eq_false h32, ← line_upd_fv (.slice none 0 0)]
      exact HO9.out.set _ _
    have hcW : Chg (w.heap.size + 1) w1 W := by rw [hW]; exact Chg.setCell _ _ _ _
    have hBW : Below w.heap.size w W := below_chg HB1.out hcW (by omega)
    have hfW : OwnI W0.heap.size W (.slice fa m fcap) (ints (M.found first y)) := hcW.but.own HFO.out (ownsRow_ne HFO.out HO9.out (by decide))
    obtain ⟨c0', c1', c2', c3'⟩ := line_cells hoW (Nat.le_refl _)
    have HFW := Lib.hid hfW
    have HBW := Lib.hid hBW
    have HOW := Lib.hid hoW
    clear hfW hBW c0 c1 c2 c3 hfz hoW t1
    refine (slivers_any bv bs so y M.vr M.oa M.cg M.r1 (M.found first y) (fun n hn => (mem_found hn).1) (by have := found_len M first y; omega) W0.heap.size _ W HFW.out (HV.out.below HBW.out hbv) ((HBW.out.cell (p := ⟨bs, so + 1, none⟩) hbs).trans HR.out) hr0 hr1).mono ?_
    rintro e w2 ⟨v, rfl, hown2, hb2⟩
    obtain ⟨sa, scap, rfl, hsc, hsm, hsx⟩ := hown2.form
    unfold maxLen at hsm
    have hl2 : (slAll M.oa M.r1 y (M.found first y)).length ≤ 1024 := by have h1 := slAll_len M.oa M.r1 y (M.found first y); have h2 := found_len M first y; omega
    have hsl : M.slivers first y = (slAll M.oa M.r1 y (M.found first y)).take 34 := rfl
    have hla : M.late first y = decide (34 < (slAll M.oa M.r1 y (M.found first y)).length) := rfl
    obtain ⟨SS, hSS⟩ : ∃ SS, SS = slAll M.oa M.r1 y (M.found first y) := ⟨_, rfl⟩
    rw [← hSS] at hown2 hsc hsx hl2 hsl hla ⊢
    obtain ⟨q, hq⟩ : ∃ q, q = SS.length := ⟨_, rfl⟩
    have hown3 : OwnS W.heap.size w2 (.slice sa q scap) SS := by rw [hq]; exact hown2
    rw [← hq] at hsc hla hl2 ⊢
    have o9 := HOW.out.below hb2 HOW.out.lt
    obtain ⟨c0, c1, c2, c3⟩ := line_cells o9 (Nat.le_refl _)
    have hfz := o9.frozen
    have HO92 := Lib.hid o9
    have HSL := Lib.hid hsl
    have HLA := Lib.hid hla
    have HQ := Lib.hid hq
    have HSSX : Hid (SS.length = 0 ∨ ∃ g, sa = some ⟨g, 0, none⟩) := by
      rcases hsx with h | ⟨g, h, -⟩
      · exact Or.inl h
      · exact Or.inr ⟨g, h⟩
    have HOWN3 := Lib.hid hown3
    clear hown2 hown3 hsx hSS hq hsl hla o9 c0' c1' c2' c3'
    by_cases h34 : 34 < q
    · have t2 : decide (34 < (q : Int)) = true := decide_eq_true (by omega)
      have hcap2 : (34 : Int) ≤ scap := by omega
      have hso : OwnS W.heap.size w2 (.slice sa 34 scap) (M.slivers first y) := by
        rcases HSSX.out with h0 | ⟨g, rfl⟩
        · have := HQ.out; omega
        · rw [HSL.out]; exact OwnS.take HOWN3.out HQ.out (by omega)
      have HSO := Lib.hid hso
      clear hso HSSX
      go_wp2_with fail
      obtain ⟨V, hV⟩ : ∃ V, V = (((w2.setCell ⟨w.heap.size + 1, 1, none⟩ (.slice sa q scap)).setCell ⟨w.heap.size + 1, 1, none⟩ (.slice sa 34 scap)).setCell ⟨w.heap.size + 1, 3, none⟩ (.bool true)) := ⟨_, rfl⟩
      rw [← hV]
      have hoV : ObjAt V (w.heap.size + 1) 41 1028 (lineC (.slice fa m fcap) (.slice sa 34 scap) (M.over first y) (M.late first y) fun _ => Dt.none) := by
        rw [hV, HLA.out, decide_eq_true h34, ← line_upd_late _ _ _ false, ← line_upd_sv _ (.slice sa q scap), ← line_upd_sv _ (.slice none 0 0)]
        exact ((HO92.out.set _ _).set _ _).set _ _
      have hcV : Chg (w.heap.size + 1) w2 V := by rw [hV]; exact ((Chg.setCell _ _ _ _).trans (Chg.setCell _ _ _ _)).trans (Chg.setCell _ _ _ _)
      clear c0 c1 c2 c3 hfz
      · skip
        obtain ⟨d0, d1, d2, d3⟩ := line_cells hoV (Nat.le_refl _)
        have hfV : OwnI W0.heap.size V (.slice fa m fcap) (ints (M.found first y)) := hcV.but.own (HFW.out.full hb2) (ownsRow_ne (HFW.out.full hb2) (HOW.out.below hb2 HOW.out.lt) (by decide))
        have hsV : OwnS W.heap.size V (.slice sa 34 scap) (M.slivers first y) := hcV.but.own HSO.out (ownsRow_ne HSO.out (HOW.out.below hb2 HOW.out.lt) (by decide))
        have hBV : Below w.heap.size w V := below_chg (HBW.out.trans (hb2.mono HBW.out.size)) hcV (by omega)
        have h8V : ObjAt V w.heap.size 41 1028 zline := hcV.obj (by omega) ((hcW.obj (by omega) HO8.out).below hb2 (by have := (hcW.obj (g := w.heap.size) (by omega) HO8.out).lt; omega))
        have HFV := Lib.hid hfV
        have HSV := Lib.hid hsV
        have HBV := Lib.hid hBV
        have H8V := Lib.hid h8V
        have HOV := Lib.hid hoV
        have hWsz : w.heap.size + 2 ≤ W.heap.size := by have := HOW.out.lt; omega
        have HWS := Lib.hid hWsz
        clear hfV hsV hBV h8V hoV d0 d1 d2 d3 hV hcV hb2 hcW hWsz
        go_loopw [10] (fun i wr => ∃ k : Nat, k ≤ 256 ∧ i = .int .i64 k ∧ ObjAt wr (w.heap.size + 1) 41 1028 (lineC (.slice fa m fcap) (.slice sa 34 scap) (M.over first y) (M.late first y) (fun x => if x < k then M.rdots first y x else Dt.none)) ∧ But (w.heap.size + 1) V wr) (fun i _ => 256 - (intOf i).toNat)
        case atStart => exact ⟨0, by omega, rfl, by simpa using HOV.out, But.refl _ _⟩
        case round =>
          obtain ⟨k, hk, rfl, hobj, hbut⟩ := hrel
          by_cases hlt : k < 256
          · have t3 : decide ((k : Int) < 256) = true := decide_eq_true (by omega)
            have k0 : (0 : Int) ≤ (k : Int) := by omega
            have k1 : (k : Int) < 256 := by omega
            have HOB := Lib.hid hobj
            clear hobj
            go_wp2_with (refine wpList_load_obj rfl _ rfl rfl HOB.out (by decide) Try.sizeLine Try.underlying41 rfl ?_)
            try simp only [Nat.zero_add]
            have hbw : Below w.heap.size w wr := HBV.out.trans (hbut.below (by omega) HBV.out.size)
            refine (dot_any bv bs so y k M (M.found first y) (M.slivers first y) (fun n hn => (mem_found hn).1) (by have := found_len M first y; omega) (fun s hs => (slivers_ok hs).1) (by have := slivers_len M first y; omega) W0.heap.size W.heap.size (.slice fa m fcap) (.slice sa 34 scap) _ rfl rfl (by omega) (by omega) _ (hbut.own HFV.out (ownsRow_ne HFV.out HOV.out (by decide))) (hbut.own HSV.out (ownsRow_ne HSV.out HOV.out (by decide))) (HV.out.below hbw hbv) hcg ((hbw.cell (p := ⟨bs, so + 1, none⟩) hbs).trans HR.out) hr0 hr1).mono ?_
            rintro e w5 ⟨rfl, hb5⟩
            obtain ⟨D, hD⟩ : ∃ D, D = rdotL M (M.slivers first y) k (M.found first y) := ⟨_, rfl⟩
            rw [← hD]
            simp only [Dt.cs]
            have HD := Lib.hid hD
            have o5 := HOB.out.below hb5 HOB.out.lt
            have e0 := o5.cell (i := 4 + k * 4) (by omega)
            have e1 := o5.cell (i := 4 + k * 4 + 1) (by omega)
            have e2 := o5.cell (i := 4 + k * 4 + 2) (by omega)
            have e3 := o5.cell (i := 4 + k * 4 + 3) (by omega)
            have hfz5 := o5.frozen
            have HO5 := Lib.hid o5
            clear hD o5 hbw
            go_wp2_with fail
            go_roundw
            case rel =>
              refine ⟨k + 1, by omega, by go_num, ?_, ((((hbut.grow hb5).setCell _ _).setCell _ _).setCell _ _).setCell _ _⟩
              have h := (((HO5.out.set (4 + k * 4) (.bool D.see)).set (4 + k * 4 + 1) (.int .u8 D.prio)).set (4 + k * 4 + 2) (.int .u8 D.index)).set (4 + k * 4 + 3) (.int .u16 D.colour)
              rw [line_upd_dot] at h
              have e : dput (fun x => if x < k then M.rdots first y x else Dt.none) k D = fun x => if x < k + 1 then M.rdots first y x else Dt.none := by
                funext i
                unfold dput
                by_cases h1 : i = k
                · subst h1; rw [if_pos rfl, if_pos (by omega), HD.out]; rfl
                · rw [if_neg h1]
                  show (if i < k then M.rdots first y i else Dt.none) = _
                  by_cases h2 : i < k
                  · rw [if_pos h2, if_pos (by omega)]
                  · rw [if_neg h2, if_neg (by omega)]
              rw [e] at h
              exact h
            case measure => simp [intOf]; omega
          · obtain rfl : k = 256 := by omega
            have HOB := Lib.hid hobj
            have h8 := hbut.obj H8V.out (show w.heap.size ≠ w.heap.size + 1 by omega)
            clear hobj
            go_wp2_with (first | refine wpList_load_obj rfl _ rfl rfl HOB.out (by decide) Try.sizeLine Try.underlying41 rfl ?_ | (refine wpList_store_obj rfl _ _ rfl rfl rfl h8 (by decide) Try.sizeLine (fun i _ => lineC_one _ _ rfl rfl _ _ _ _) ?_; intro w6 h6 hc6))
            have h9 : ObjAt w6 w.heap.size 41 1028 (lineC (.slice fa m fcap) (.slice sa 34 scap) (M.over first y) (M.late first y) (M.rdots first y)) := h6.congr fun i hi => by
              rw [if_pos (by omega), show 0 + (i - 0) = i by omega]
              exact lineC_congr (fun x hx => if_pos hx) i hi
            refine bodyPost_ret (results_cell_row rfl _ _ w.heap.size _ _ _ _ rfl h9 Try.underlying41 rfl (by rw [size_blk]; exact Try.sizeLine)) rfl ⟨_, _, rfl, ?_, ?_, ?_⟩
            · have h := hbut.own HFV.out (ownsRow_ne HFV.out HOV.out (by decide))
              exact OwnI.mono (hc6.but.own h (ownsRow_ne h h8 (by decide))) (by have := HZ.out; omega)
            · have h := hbut.own HSV.out (ownsRow_ne HSV.out HOV.out (by decide))
              exact OwnS.mono (hc6.but.own h (ownsRow_ne h h8 (by decide))) (by have := HWS.out; omega)
            · exact below_chg (HBV.out.trans (hbut.below (by omega) HBV.out.size)) hc6 (Nat.le_refl _)
    · have t2 : decide (34 < (q : Int)) = false := decide_eq_false (by omega)
      have hso : OwnS W.heap.size w2 (.slice sa q scap) (M.slivers first y) := by
        rw [HSL.out, List.take_of_length_le (by have := HQ.out; omega)]; exact HOWN3.out
      have HSO := Lib.hid hso
      clear hso HSSX
      go_wp2_with fail
      obtain ⟨V, hV⟩ : ∃ V, V = (w2.setCell ⟨w.heap.size + 1, 1, none⟩ (.slice sa q scap)) := ⟨_, rfl⟩
      rw [← hV]
      have hoV : ObjAt V (w.heap.size + 1) 41 1028 (lineC (.slice fa m fcap) (.slice sa q scap) (M.over first y) (M.late first y) fun _ => Dt.none) := by
        rw [hV, HLA.out, decide_eq_false h34, ← line_upd_sv _ (.slice none 0 0)]
        exact HO92.out.set _ _
      have hcV : Chg (w.heap.size + 1) w2 V := by rw [hV]; exact Chg.setCell _ _ _ _
      clear c0 c1 c2 c3 hfz
      · skip
        obtain ⟨d0, d1, d2, d3⟩ := line_cells hoV (Nat.le_refl _)
        have hfV : OwnI W0.heap.size V (.slice fa m fcap) (ints (M.found first y)) := hcV.but.own (HFW.out.full hb2) (ownsRow_ne (HFW.out.full hb2) (HOW.out.below hb2 HOW.out.lt) (by decide))
        have hsV : OwnS W.heap.size V (.slice sa q scap) (M.slivers first y) := hcV.but.own HSO.out (ownsRow_ne HSO.out (HOW.out.below hb2 HOW.out.lt) (by decide))
        have hBV : Below w.heap.size w V := below_chg (HBW.out.trans (hb2.mono HBW.out.size)) hcV (by omega)
        have h8V : ObjAt V w.heap.size 41 1028 zline := hcV.obj (by omega) ((hcW.obj (by omega) HO8.out).below hb2 (by have := (hcW.obj (g := w.heap.size) (by omega) HO8.out).lt; omega))
        have HFV := Lib.hid hfV
        have HSV := Lib.hid hsV
        have HBV := Lib.hid hBV
        have H8V := Lib.hid h8V
        have HOV := Lib.hid hoV
        have hWsz : w.heap.size + 2 ≤ W.heap.size := by have := HOW.out.lt; omega
        have HWS := Lib.hid hWsz
        clear hfV hsV hBV h8V hoV d0 d1 d2 d3 hV hcV hb2 hcW hWsz
        go_loopw [10] (fun i wr => ∃ k : Nat, k ≤ 256 ∧ i = .int .i64 k ∧ ObjAt wr (w.heap.size + 1) 41 1028 (lineC (.slice fa m fcap) (.slice sa q scap) (M.over first y) (M.late first y) (fun x => if x < k then M.rdots first y x else Dt.none)) ∧ But (w.heap.size + 1) V wr) (fun i _ => 256 - (intOf i).toNat)
        case atStart => exact ⟨0, by omega, rfl, by simpa using HOV.out, But.refl _ _⟩
        case round =>
          obtain ⟨k, hk, rfl, hobj, hbut⟩ := hrel
          by_cases hlt : k < 256
          · have t3 : decide ((k : Int) < 256) = true := decide_eq_true (by omega)
            have k0 : (0 : Int) ≤ (k : Int) := by omega
            have k1 : (k : Int) < 256 := by omega
            have HOB := Lib.hid hobj
            clear hobj
            go_wp2_with (refine wpList_load_obj rfl _ rfl rfl HOB.out (by decide) Try.sizeLine Try.underlying41 rfl ?_)
            try simp only [Nat.zero_add]
            have hbw : Below w.heap.size w wr := HBV.out.trans (hbut.below (by omega) HBV.out.size)
            refine (dot_any bv bs so y k M (M.found first y) (M.slivers first y) (fun n hn => (mem_found hn).1) (by have := found_len M first y; omega) (fun s hs => (slivers_ok hs).1) (by have := slivers_len M first y; omega) W0.heap.size W.heap.size (.slice fa m fcap) (.slice sa q scap) _ rfl rfl (by omega) (by omega) _ (hbut.own HFV.out (ownsRow_ne HFV.out HOV.out (by decide))) (hbut.own HSV.out (ownsRow_ne HSV.out HOV.out (by decide))) (HV.out.below hbw hbv) hcg ((hbw.cell (p := ⟨bs, so + 1, none⟩) hbs).trans HR.out) hr0 hr1).mono ?_
            rintro e w5 ⟨rfl, hb5⟩
            obtain ⟨D, hD⟩ : ∃ D, D = rdotL M (M.slivers first y) k (M.found first y) := ⟨_, rfl⟩
            rw [← hD]
            simp only [Dt.cs]
            have HD := Lib.hid hD
            have o5 := HOB.out.below hb5 HOB.out.lt
            have e0 := o5.cell (i := 4 + k * 4) (by omega)
            have e1 := o5.cell (i := 4 + k * 4 + 1) (by omega)
            have e2 := o5.cell (i := 4 + k * 4 + 2) (by omega)
            have e3 := o5.cell (i := 4 + k * 4 + 3) (by omega)
            have hfz5 := o5.frozen
            have HO5 := Lib.hid o5
            clear hD o5 hbw
            go_wp2_with fail
            go_roundw
            case rel =>
              refine ⟨k + 1, by omega, by go_num, ?_, ((((hbut.grow hb5).setCell _ _).setCell _ _).setCell _ _).setCell _ _⟩
              have h := (((HO5.out.set (4 + k * 4) (.bool D.see)).set (4 + k * 4 + 1) (.int .u8 D.prio)).set (4 + k * 4 + 2) (.int .u8 D.index)).set (4 + k * 4 + 3) (.int .u16 D.colour)
              rw [line_upd_dot] at h
              have e : dput (fun x => if x < k then M.rdots first y x else Dt.none) k D = fun x => if x < k + 1 then M.rdots first y x else Dt.none := by
                funext i
                unfold dput
                by_cases h1 : i = k
                · subst h1; rw [if_pos rfl, if_pos (by omega), HD.out]; rfl
                · rw [if_neg h1]
                  show (if i < k then M.rdots first y i else Dt.none) = _
                  by_cases h2 : i < k
                  · rw [if_pos h2, if_pos (by omega)]
                  · rw [if_neg h2, if_neg (by omega)]
              rw [e] at h
              exact h
            case measure => simp [intOf]; omega
          · obtain rfl : k = 256 := by omega
            have HOB := Lib.hid hobj
            have h8 := hbut.obj H8V.out (show w.heap.size ≠ w.heap.size + 1 by omega)
            clear hobj
            go_wp2_with (first | refine wpList_load_obj rfl _ rfl rfl HOB.out (by decide) Try.sizeLine Try.underlying41 rfl ?_ | (refine wpList_store_obj rfl _ _ rfl rfl rfl h8 (by decide) Try.sizeLine (fun i _ => lineC_one _ _ rfl rfl _ _ _ _) ?_; intro w6 h6 hc6))
            have h9 : ObjAt w6 w.heap.size 41 1028 (lineC (.slice fa m fcap) (.slice sa q scap) (M.over first y) (M.late first y) (M.rdots first y)) := h6.congr fun i hi => by
              rw [if_pos (by omega), show 0 + (i - 0) = i by omega]
              exact lineC_congr (fun x hx => if_pos hx) i hi
            refine bodyPost_ret (results_cell_row rfl _ _ w.heap.size _ _ _ _ rfl h9 Try.underlying41 rfl (by rw [size_blk]; exact Try.sizeLine)) rfl ⟨_, _, rfl, ?_, ?_, ?_⟩
            · have h := hbut.own HFV.out (ownsRow_ne HFV.out HOV.out (by decide))
              exact OwnI.mono (hc6.but.own h (ownsRow_ne h h8 (by decide))) (by have := HZ.out; omega)
            · have h := hbut.own HSV.out (ownsRow_ne HSV.out HOV.out (by decide))
              exact OwnS.mono (hc6.but.own h (ownsRow_ne h h8 (by decide))) (by have := HWS.out; omega)
            · exact below_chg (HBV.out.trans (hbut.below (by omega) HBV.out.size)) hc6 (Nat.le_refl _)
end Go.Proofs.Ytoaecfaackkicaa
