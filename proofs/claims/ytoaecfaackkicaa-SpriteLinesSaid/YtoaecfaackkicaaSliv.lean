/- The walk of the document's list of slivers. -/
import Derived.Test.YtoaecfaackkicaaFound
namespace Go.Proofs.Ytoaecfaackkicaa
open Go Go.RowKit

def slTo (p : Sp) (n row : Int) : Nat → List Sl
  | 0 => []
  | c + 1 => slTo p n row c ++ (if -7 ≤ p.x + 8 * (c : Int) ∧ p.x + 8 * (c : Int) ≤ 255 then [⟨n, p.x + 8 * (c : Int), c, row⟩] else [])
def slOf (oa : Nat → Int) (r1 y : Int) (n : Nat) : List Sl := slTo (spOf oa r1 n) n (rowOf (spOf oa r1 n) y).1 ((spOf oa r1 n).w / 8).toNat
def slAll (oa : Nat → Int) (r1 y : Int) : List Nat → List Sl
  | [] => []
  | n :: l => slAll oa r1 y l ++ slOf oa r1 y n
theorem slTo_len (p : Sp) (n row : Int) (c : Nat) : (slTo p n row c).length ≤ c := by
  induction c with
  | zero => simp [slTo]
  | succ c ih => simp only [slTo, List.length_append]; split <;> simp <;> omega
theorem slOf_len (oa : Nat → Int) (r1 y : Int) (n : Nat) : (slOf oa r1 y n).length ≤ 8 := by
  have h := slTo_len (spOf oa r1 n) n (rowOf (spOf oa r1 n) y).1 ((spOf oa r1 n).w / 8).toNat
  have hs := szOf_bd (r1 / 32) (hiOf oa n / 2 % 2 * 2 != 0)
  have : (spOf oa r1 n).w ≤ 64 := hs.2.1
  unfold slOf; omega
theorem slAll_len (oa : Nat → Int) (r1 y : Int) (l : List Nat) : (slAll oa r1 y l).length ≤ 8 * l.length := by
  induction l with
  | nil => simp [slAll]
  | cons n l ih => have := slOf_len oa r1 y n; simp [slAll]; omega

theorem ownsRow_ne {w : World} {base e size n : Nat} {v : Value} {xs : List Value} (h : w.ownsRow base e size v n xs) {b t : Nat} {cs : Array Value} {fr : Nat × Nat} (hb : w.heap[b]? = some (.cells cs t fr)) (ht : t ≠ e) : v.ownBlock ≠ some b := by
  intro hv
  rcases h.2 with ⟨rfl, -⟩ | ⟨g, cap, cur, rfl, -, hh, -⟩
  · cases hv
  · cases hv; rw [hb] at hh; cases hh; exact ht rfl

def Sp.arr (p : Sp) : Array Value := #[.int .i64 p.x, .int .i64 p.y, .int .i64 p.w, .int .i64 p.h, .int .u8 p.tile, .int .u8 p.pal, .int .u8 p.prio, .bool p.sec, .bool p.fx, .bool p.fy]
theorem ints_get (l : List Nat) (i : Nat) (h : i < l.length) : (ints l).getD i 0 = ((l[i] : Nat) : Int) := by simp [ints, h]
theorem ints_len (l : List Nat) : (ints l).length = l.length := by simp [ints]

theorem Try.infoSl : (Try.prog.info? 52).map (fun i => (i.zero, i.size, i.bytes)) = some (some (.agg #[.int .i64 0, .int .i64 0, .int .i64 0, .int .i64 0]), 4, 32) := by kernel_rfl

set_option maxRecDepth 100000 in
set_option maxHeartbeats 4000000 in
theorem slivers_any (bv bs so : Nat) (y : Int) (vr oa cg : Nat → Int) (r1 : Int) (L : List Nat) (hL : ∀ n ∈ L, n < 128) (hL2 : L.length ≤ 128) (Bl : Nat) (lv : Value) (w : World) (hl : OwnI Bl w lv (ints L)) (hv : VidAt w bv vr oa cg) (hr : w.cell? ⟨bs, so + 1, none⟩ = some (.int .u8 r1)) (hr0 : 0 ≤ r1) (hr1 : r1 ≤ 255) :
    Calls Try.prog 22 #[.pointer (some ⟨bv, 0, none⟩), .pointer (some ⟨bs, so, none⟩), lv, .int .i64 y] w fun e w' => ∃ v, e = .returned v ∧ OwnS w.heap.size w' v (slAll oa r1 y L) ∧ Below w.heap.size w w' := by
  obtain ⟨la, lcap, rfl, hc, hm, hx⟩ := hl.form
  unfold maxLen at hm
  have hbv := hv.lt
  have hbs : bs < w.heap.size := block_lt_of_cell hr
  have HV := Lib.hid hv
  have HR := Lib.hid hr
  have HO := Lib.hid hv.oamB
  rw [ints_len] at hc hx ⊢
  clear hv hr hl
  obtain ⟨i0, hi, hz0, hz1, hz2⟩ := info_parts Try.infoSl
  obtain ⟨B, hB⟩ : ∃ B, B = w.heap.size := ⟨_, rfl⟩
  rw [← hB] at hbv hbs hx ⊢
  have hBw : B ≤ w.heap.size := by omega
  clear hB
  have HX := Lib.hid hx
  clear hx
  obtain ⟨N, hN⟩ : ∃ N, N = L.length := ⟨_, rfl⟩
  rw [← hN] at hc hL2 ⊢
  have HN := Lib.hid hN
  clear hN
  go_enter Try.func22, Try.ntmps22
  go_wp2
  go_loopw [9, 10] (fun v i wr => ∃ j : Nat, j ≤ N ∧ i = .int .i64 ((j : Int) - 1) ∧ OwnS B wr v (slAll oa r1 y (L.drop j)) ∧ Below B w wr) (fun _ i _ => (intOf i + 1).toNat)
  case atStart => exact ⟨N, Nat.le_refl _, rfl, by rw [HN.out, List.drop_length]; exact (World.ownsRow_nil _ _ _ _ : World.ownsRow _ _ _ _ _ 0 []), Below.refl _ _⟩
  case round =>
    obtain ⟨j, hj, rfl, hown, hbel⟩ := hrel
    by_cases hlt : 1 ≤ j
    · have t1 : decide ((0 : Int) ≤ (j : Int) - 1) = true := decide_eq_true (by omega)
      have hBr : B ≤ wr.heap.size := Nat.le_trans hBw hbel.size
      have hjL : j - 1 < L.length := by rw [← HN.out]; omega
      obtain ⟨n, hn⟩ : ∃ n : Nat, n = L[j - 1] := ⟨_, rfl⟩
      have hn128 : n < 128 := by rw [hn]; exact hL _ (List.getElem_mem _)
      have hcell : ∃ g, la = some ⟨g, 0, none⟩ ∧ g < B ∧ w.cell? ⟨g, j - 1, none⟩ = some (.int .i64 (n : Int)) ∧ wr.cell? ⟨g, j - 1, none⟩ = some (.int .i64 (n : Int)) := by
        rcases HX.out with h0 | ⟨g, hg, hg1, hg2, hg3, hg4⟩
        · omega
        · have := hg3 (j - 1) hjL
          rw [ints_get L (j - 1) hjL, ← hn] at this
          refine ⟨g, hg, hg2, this, ?_⟩
          exact (hbel.cell (p := ⟨g, j - 1, none⟩) hg2).trans this
      obtain ⟨g, rfl, hgB, hcellw, hcell⟩ := hcell
      have HCW := Lib.hid hcellw
      clear hcellw
      have hdrop : slAll oa r1 y (L.drop (j - 1)) = slAll oa r1 y (L.drop j) ++ slOf oa r1 y n := by
        rw [List.drop_eq_getElem_cons hjL, show j - 1 + 1 = j by omega, ← hn]; rfl
      have HD := Lib.hid hdrop
      clear hdrop hn hjL
      have i1 : (j : Int) - 1 < N := by omega
      have i2 : ((j : Int) - 1).toNat = j - 1 := by omega
      obtain ⟨p, hp⟩ : ∃ p, p = spOf oa r1 n := ⟨_, rfl⟩
      have hpy := spOf_y oa HO.out r1 n
      have hpb := spOf_bd oa HO.out r1 n
      rw [← hp] at hpy hpb
      have HP := Lib.hid hp
      clear hp
      go_wp2_with fail
      refine (rof_any bv bs so n vr oa cg r1 (by omega) (by omega) _ (HV.out.below hbel hbv) ((hbel.cell (p := ⟨bs, so + 1, none⟩) hbs).trans HR.out) hr0 hr1).mono ?_
      rintro e w1 ⟨rfl, hb1⟩
      rw [Int.toNat_natCast, ← HP.out]
      simp only [Sp.v]
      have hcell1 : w1.cell? ⟨g, j - 1, none⟩ = some (.int .i64 (n : Int)) := (hb1.cell (p := ⟨g, j - 1, none⟩) (block_lt_of_cell hcell)).trans hcell
      go_wp2_with fail
      refine (rrow_any p y hpy.1 hpy.2 _).mono ?_
      rintro e w2 ⟨rfl, hb2⟩
      have hown2 : OwnS B w2 u9 (slAll oa r1 y (L.drop j)) := OwnS.full (World.ownsRow.alloc (hown.full hb1) _) hb2
      have hb2B : Below B w w2 := (hbel.trans (hb1.mono hBr)).trans (((Below.refl B w1).alloc (Nat.le_trans hBr hb1.size) _).trans (hb2.mono (by have := hb1.size; simp; omega)))
      have hobj : w2.heap[w1.heap.size]? = some (.cells p.arr 56 (0, 0)) := (hb2.block w1.heap.size (by simp)).trans (heap_alloc_new w1 _)
      have hcell2 : w2.cell? ⟨g, j - 1, none⟩ = some (.int .i64 (n : Int)) := (hb2.cell (p := ⟨g, j - 1, none⟩) (by have := block_lt_of_cell hcell1; simp at this ⊢; omega)).trans ((World.cell?_alloc_past _ _ _ (block_lt_of_cell hcell1)).trans hcell1)
      obtain ⟨bp, hbp⟩ : ∃ bp, bp = w1.heap.size := ⟨_, rfl⟩
      rw [← hbp] at hobj ⊢
      obtain ⟨row, hrow⟩ : ∃ row, row = (rowOf p y).1 := ⟨_, rfl⟩
      rw [← hrow]
      have HRow := Lib.hid hrow
      clear hrow hbp hcell hcell1 hown hb1 hb2 hbel hBr
      have hw8 : p.w / 8 ≤ 8 := by omega
      obtain ⟨W, hW⟩ : ∃ W : Nat, (W : Int) = p.w / 8 := ⟨(p.w / 8).toNat, by omega⟩
      have HW := Lib.hid hW
      have hW8 : W ≤ 8 := by omega
      have hx0 := hpb.1
      have hx1 := hpb.2.1
      have hw0 : 0 ≤ p.w := by omega
      clear hpb hpy hw8
      have hlen : (slAll oa r1 y (L.drop j)).length ≤ 1024 := by
        have h1 := slAll_len oa r1 y (L.drop j); have h2 := HN.out; simp at h1; omega
      go_wp2_with fail
      obtain ⟨wo, rfl⟩ : ∃ wo : World, wo = wr := ⟨_, rfl⟩
      go_loopw [9, 15] (fun v c wi => ∃ k : Nat, k ≤ W ∧ c = .int .i64 k ∧ OwnS B wi v (slAll oa r1 y (L.drop j) ++ slTo p n row k) ∧ Below B w wi ∧ wi.heap[bp]? = some (.cells p.arr 56 (0, 0)) ) (fun _ c _ => W - (intOf c).toNat)
      case atStart => exact ⟨0, by omega, rfl, by simpa [slTo] using hown2, hb2B, hobj⟩
      case round =>
        clear hown2 hb2B hobj hcell2
        obtain ⟨k, hk, rfl, hown, hbel, hobj⟩ := hrel
        have hcell : wr.cell? ⟨g, j - 1, none⟩ = some (.int .i64 (n : Int)) := (hbel.cell (p := ⟨g, j - 1, none⟩) hgB).trans HCW.out
        have c0 : wr.cell? ⟨bp, 0, none⟩ = some (.int .i64 p.x) := cell_of_row _ _ _ _ _ _ hobj
        have c2 : wr.cell? ⟨bp, 2, none⟩ = some (.int .i64 p.w) := cell_of_row _ _ _ _ _ _ hobj
        have hBr : B ≤ wr.heap.size := Nat.le_trans hBw hbel.size
        by_cases hkW : k < W
        · have t2 : decide ((k : Int) < p.w / 8) = true := decide_eq_true (by have := HW.out; omega)
          have hsl := slTo_len p n row k
          by_cases hin : -7 ≤ p.x + 8 * (k : Int) ∧ p.x + 8 * (k : Int) ≤ 255
          · have e1 : decide (-7 ≤ p.x + 8 * (k : Int)) = true := decide_eq_true hin.1
            have e2 : decide (p.x + 8 * (k : Int) ≤ 255) = true := decide_eq_true hin.2
            have e : slAll oa r1 y (L.drop j) ++ slTo p n row (k + 1) = (slAll oa r1 y (L.drop j) ++ slTo p n row k) ++ [⟨n, p.x + 8 * (k : Int), k, row⟩] := by
              simp only [slTo, if_pos hin, List.append_assoc]
            have HE := Lib.hid e
            have HK := Lib.hid hown
            have hne := ownsRow_ne hown hobj (by decide)
            have HNE := Lib.hid hne
            clear hin e hne
            go_wp2_with (at_builtin; go_must (refine wpList_append_own _ rfl _ _ 36 rfl B 52 i0 (.agg #[.int .i64 0, .int .i64 0, .int .i64 0, .int .i64 0]) 4 32 Try.underlying36 hi hz0 hz1 hz2 rfl (by decide) _ _ _ rfl (World.ownsRow.alloc HK.out _) ⟨wr.heap.size, 0, none⟩ 1 1 [.int .i64 n, .int .i64 (p.x + 8 * (k : Int)), .int .i64 k, .int .i64 row] rfl rfl (World.news_of_block (cs := #[.int .i64 n, .int .i64 (p.x + 8 * (k : Int)), .int .i64 k, .int .i64 row]) (t := 52) (fr := (0, 0)) (heap_alloc_new wr _)) (by simp [Value.oneCell']) (by simp only [maxLen, List.length_append]; omega) (by simp only [List.length_append]; omega) (by simp; omega) ?_); intro v' w3 hown3 hgrow hnil)
            go_roundw
            case rel =>
              refine ⟨k + 1, by omega, by go_num, ?_, ?_, ?_⟩
              · rw [HE.out]
                unfold OwnS
                simpa [Sl.cs, iv, Nat.add_assoc] using hown3
              · exact (hbel.alloc hBr _).grown hgrow (by simp; omega) (fun g hg => (World.ownsRow.lt HK.out g (show u9.ownBlock = some g from hg)).1)
              · have hlt2 := (Array.getElem?_eq_some_iff.1 hobj).1
                exact (hgrow.block bp (by simp; omega) (fun h => HNE.out h.symm)).trans ((Below.heap_alloc wr _ bp hlt2).trans hobj)
            case measure => simp [intOf]; omega
          · have e : slAll oa r1 y (L.drop j) ++ slTo p n row (k + 1) = (slAll oa r1 y (L.drop j) ++ slTo p n row k) := by
              simp only [slTo, if_neg hin, List.append_nil]
            have HE := Lib.hid e
            have HK := Lib.hid hown
            have HOB := Lib.hid hobj
            have hin' : decide (-7 ≤ p.x + 8 * (k : Int)) = false ∨ (decide (-7 ≤ p.x + 8 * (k : Int)) = true ∧ decide (p.x + 8 * (k : Int) ≤ 255) = false) := by
              by_cases h : -7 ≤ p.x + 8 * (k : Int)
              · exact Or.inr ⟨decide_eq_true h, decide_eq_false (fun h2 => hin ⟨h, h2⟩)⟩
              · exact Or.inl (decide_eq_false h)
            clear hin e hown hobj
            rcases hin' with e1 | ⟨e1, e2⟩
            all_goals
              go_wp2_with fail
              go_roundw
              case rel => exact ⟨k + 1, by omega, by go_num, by rw [HE.out]; exact HK.out, hbel, HOB.out⟩
              case measure => simp [intOf]; omega
        · have t2 : decide ((k : Int) < p.w / 8) = false := decide_eq_false (by have := HW.out; omega)
          obtain rfl : k = W := by omega
          have HK := Lib.hid hown
          clear hown hobj
          go_wp2_with fail
          go_roundw
          case rel =>
            refine ⟨j - 1, by omega, ?_, ?_, hbel⟩
            · rw [show (((j - 1 : Nat) : Int) - 1) = (j : Int) - 1 - 1 by omega]
            · rw [HD.out]
              have e : slOf oa r1 y n = slTo p n row k := by unfold slOf; rw [← HP.out, ← HRow.out, ← HW.out]; rfl
              rw [e]; exact HK.out
          case measure => simp [intOf]; omega
    · obtain rfl : j = 0 := by omega
      go_wp2_with fail
      go_ret
      exact ⟨_, rfl, by simpa using hown, hbel⟩
end Go.Proofs.Ytoaecfaackkicaa
