/- The walk of the document's dot of a line. -/
import Derived.Test.YtoaecfaackkicaaSliv
import Derived.Test.YtoaecfaackkicaaRefD
namespace Go.Proofs.Ytoaecfaackkicaa
open Go Go.RowKit

/-- A dot of a layer. -/
structure Dt where
  see : Bool
  (prio index colour : Int)
def Dt.none : Dt := ⟨false, 0, 0, 0⟩
def Dt.cs (d : Dt) : List Value := [.bool d.see, .int .u8 d.prio, .int .u8 d.index, .int .u16 d.colour]

/-- What the memories say: words, sprites' bytes, colours, and the register of the sprites. -/
structure Mem where
  (vr oa cg : Nat → Int)
  r1 : Int
def Mem.sp (M : Mem) (n : Nat) : Sp := spOf M.oa M.r1 n
def slNum (M : Mem) (n : Nat) (s : Sl) (x : Int) : Int := numOf M.vr M.r1 (M.sp n) (x - (M.sp n).x) s.row
def slDot (M : Mem) (n : Nat) (s : Sl) (x : Int) : Dt :=
  let i := 128 + 16 * (M.sp n).pal + slNum M n s x
  ⟨true, (M.sp n).prio, i, M.cg i.toNat⟩
/-- Does a sliver of sprite n cover x with a number above 0? -/
def hits (M : Mem) (n : Nat) (s : Sl) (x : Int) : Bool := decide (s.sp = (n : Int)) && (decide (s.x ≤ x) && (decide (x ≤ s.x + 7) && decide (0 < slNum M n s x)))
def rdotS (M : Mem) (n : Nat) (x : Int) : List Sl → Option Dt
  | [] => Option.none
  | s :: S => if hits M n s x then some (slDot M n s x) else rdotS M n x S
def rdotL (M : Mem) (S : List Sl) (x : Int) : List Nat → Dt
  | [] => Dt.none
  | n :: L => match rdotS M n x S with
    | some d => d
    | Option.none => rdotL M S x L

/-- A sliver as it is taken of a sprite that is on the line. -/
structure SlOk (M : Mem) (y : Int) (s : Sl) : Prop where
  sp : ∃ n : Nat, n < 128 ∧ s.sp = (n : Int) ∧ 0 ≤ s.col ∧ s.col < (M.sp n).w / 8 ∧ s.x = (M.sp n).x + 8 * s.col ∧ (rowOf (M.sp n) y).2 = true ∧ s.row = (rowOf (M.sp n) y).1

theorem rowOf_bd (p : Sp) (y : Int) (h : (rowOf p y).2 = true) : 0 ≤ (rowOf p y).1 ∧ (rowOf p y).1 < p.h := by
  unfold rowOf at h ⊢
  split at h
  · simp at h
  · rename_i h1
    rw [if_neg h1]
    split at h
    · simp at h
    · rename_i h2; rw [if_neg h2]; constructor
      · simp; omega
      · simp; omega
theorem spOk (M : Mem) (h : ∀ i, 0 ≤ M.oa i ∧ M.oa i ≤ 255) (n : Nat) : SpOk (M.sp n) := by
  have h1 := spOf_bd M.oa h M.r1 n
  have h2 := spOf_y M.oa h M.r1 n
  exact ⟨h1.2.2.1, h1.2.2.2.1, h1.2.2.2.2.1, h1.2.2.2.2.2, h1.1, h1.2.1, h2.1, h2.2, (h (4 * n + 2)).1, (h (4 * n + 2)).2⟩
theorem bitsOf_bd (vr : Nat → Int) (b t x y : Nat) : 0 ≤ bitsOf vr b t 4 x y ∧ bitsOf vr b t 4 x y ≤ 15 := by
  have h := bitsTo_bd vr b t 4 x y 2
  unfold bitsOf
  have h16 : (4 : Int) ^ 2 = 16 := by decide
  simp only [Nat.reduceDiv]
  omega
theorem numOf_bd (M : Mem) (p : Sp) (ix iy : Int) : 0 ≤ numOf M.vr M.r1 p ix iy ∧ numOf M.vr M.r1 p ix iy ≤ 15 := by
  unfold numOf
  split
  · omega
  · exact bitsOf_bd _ _ _ _ _
theorem pal_bd (M : Mem) (n : Nat) : 0 ≤ (M.sp n).pal ∧ (M.sp n).pal ≤ 7 := by unfold Mem.sp spOf; simp only; omega

theorem zdot_cell {w : World} {b : Nat} {cs : Array Value} (h : w.heap[b]? = some (.cells cs 38 (0, 0))) (i : Nat) : w.frozen? ⟨b, i, none⟩ = false := by
  unfold World.frozen?
  rw [show w.heap[(⟨b, i, none⟩ : Addr).block]? = _ from h]
  simp

set_option maxRecDepth 100000 in
set_option maxHeartbeats 4000000 in
theorem dot_any (bv bs so : Nat) (y x : Int) (M : Mem) (L : List Nat) (S : List Sl) (hL : ∀ n ∈ L, n < 128) (hL2 : L.length ≤ 128) (hS : ∀ s ∈ S, SlOk M y s) (hS2 : S.length ≤ 1024)
    (Bf Bs : Nat) (fv sv : Value) (c : Nat → Value) (hc0 : c 0 = fv) (hc1 : c 1 = sv) (hx0 : 0 ≤ x) (hx1 : x ≤ 255) (w : World) (hf : OwnI Bf w fv (ints L)) (hs : OwnS Bs w sv S)
    (hv : VidAt w bv M.vr M.oa M.cg) (hcg : ∀ i, 0 ≤ M.cg i ∧ M.cg i ≤ 65535) (hr : w.cell? ⟨bs, so + 1, none⟩ = some (.int .u8 M.r1)) (hr0 : 0 ≤ M.r1) (hr1 : M.r1 ≤ 255) :
    Calls Try.prog 23 #[.pointer (some ⟨bv, 0, none⟩), .pointer (some ⟨bs, so, none⟩), .agg (blk 1028 c), .int .i64 x] w fun e w' => e = .returned (.agg (rdotL M S x L).cs.toArray) ∧ Below w.heap.size w w' := by
  obtain ⟨fa, fcap, rfl, hfc, hfm, hfx⟩ := hf.form
  obtain ⟨sa, scap, rfl, hsc, hsm, hsx⟩ := hs.form
  rw [ints_len] at hfc hfx hc0
  unfold maxLen at hfm hsm
  have hbv := hv.lt
  have hbs : bs < w.heap.size := block_lt_of_cell hr
  have hspok := fun n => spOk M hv.oamB n
  obtain ⟨N, hN⟩ : ∃ N, N = L.length := ⟨_, rfl⟩
  obtain ⟨K, hK⟩ : ∃ K, K = S.length := ⟨_, rfl⟩
  rw [← hN] at hfc hfx hc0 hL2
  rw [← hK] at hsc hc1 hS2
  obtain ⟨W0, hW0⟩ : ∃ W0, W0 = (w.alloc (.cells (blk 1028 c) 41)).alloc (.cells #[.bool false, .int .u8 0, .int .u8 0, .int .u16 0] 38) := ⟨_, rfl⟩
  have hz : W0.heap.size = w.heap.size + 2 := by rw [hW0]; simp
  have hbW : Below w.heap.size w W0 := by rw [hW0]; exact ((Below.refl _ w).alloc (Nat.le_refl _) _).alloc (by simp) _
  have hff : ∀ X, Below (w.heap.size + 2) W0 X → Below w.heap.size w X ∧ X.cell? ⟨w.heap.size, 0, none⟩ = some (.slice fa N fcap) ∧ X.cell? ⟨w.heap.size, 1, none⟩ = some (.slice sa K scap) ∧
      X.heap[w.heap.size + 1]? = some (.cells #[.bool false, .int .u8 0, .int .u8 0, .int .u16 0] 38 (0, 0)) ∧ w.heap.size + 2 ≤ X.heap.size := by
    intro X hX
    have ho : X.heap[w.heap.size]? = some (.cells (blk 1028 c) 41 (0, 0)) := by rw [hX.block _ (by omega), hW0]; exact heap_alloc2_old w _ _
    have hd : X.heap[w.heap.size + 1]? = some (.cells #[.bool false, .int .u8 0, .int .u8 0, .int .u16 0] 38 (0, 0)) := by rw [hX.block _ (by omega), hW0]; exact heap_alloc2_new w _ _
    refine ⟨hbW.trans (hX.mono (by omega)), ?_, ?_, hd, by have := hX.size; omega⟩
    · rw [← hc0]; exact ObjAt.cell ho (by decide)
    · rw [← hc1]; exact ObjAt.cell ho (by decide)
  have HF := Lib.hid hff
  have HW0 := Lib.hid hW0
  have HV := Lib.hid hv
  have HR := Lib.hid hr
  have HFX := Lib.hid hfx
  have HSX := Lib.hid hsx
  have HS := Lib.hid hS
  have HN := Lib.hid hN
  have HK := Lib.hid hK
  have HSP := Lib.hid hspok
  have HCG := Lib.hid hcg
  clear hv hr hfx hsx hs hc0 hc1 hS hf hff hW0 hbW hN hK hspok hcg
  go_enter Try.func23, Try.ntmps23
  go_wp2_with fail
  rw [← HW0.out]
  have HZ := Lib.hid hz
  clear hz HW0
  go_loopw [9] (fun i wr => ∃ j : Nat, j ≤ N ∧ i = .int .i64 j ∧ rdotL M S x L = rdotL M S x (L.drop j) ∧ Below (w.heap.size + 2) W0 wr) (fun i _ => N - (intOf i).toNat)
  case atStart => exact ⟨0, by omega, rfl, rfl, Below.refl _ _⟩
  case round =>
    obtain ⟨j, hj, rfl, hrd, hbel⟩ := hrel
    obtain ⟨hbw, hc0, hc1, hd, hsz⟩ := HF.out wr hbel
    have HRD := Lib.hid hrd
    clear hrd
    by_cases hlt : j < N
    · have t1 : decide ((j : Int) < N) = true := decide_eq_true (by omega)
      have hjL : j < L.length := by rw [← HN.out]; exact hlt
      obtain ⟨n, hn⟩ : ∃ n : Nat, n = L[j] := ⟨_, rfl⟩
      have hn128 : n < 128 := by rw [hn]; exact hL _ (List.getElem_mem _)
      have hcell : ∃ g, fa = some ⟨g, 0, none⟩ ∧ wr.cell? ⟨g, j, none⟩ = some (.int .i64 (n : Int)) := by
        rcases HFX.out with h0 | ⟨g, hg, hg1, hg2, hg3, hg4⟩
        · omega
        · have := hg3 j hlt
          rw [ints_get L j hjL, ← hn] at this
          exact ⟨g, hg, (hbw.cell (p := ⟨g, j, none⟩) hg2).trans this⟩
      obtain ⟨g, rfl, hcell⟩ := hcell
      have hdrop : rdotL M S x (L.drop j) = match rdotS M n x S with | some d => d | Option.none => rdotL M S x (L.drop (j + 1)) := by
        rw [List.drop_eq_getElem_cons hjL, ← hn]; rfl
      have HD := Lib.hid hdrop
      clear hdrop hn hjL HFX
      have i0 : (0 : Int) ≤ (j : Int) := by omega
      have i1 : (j : Int) < N := by omega
      have i2 : (j : Int).toNat = j := by omega
      obtain ⟨p, hp⟩ : ∃ p, p = M.sp n := ⟨_, rfl⟩
      have hpo := HSP.out n
      rw [← hp] at hpo
      have HPO := Lib.hid hpo
      have HP := Lib.hid hp
      clear hp hpo
      have hdl := hd
      clear hd
      go_wp2_with fail
      refine (rof_any bv bs so n M.vr M.oa M.cg M.r1 (by omega) (by omega) _ (HV.out.below hbw hbv) ((hbw.cell (p := ⟨bs, so + 1, none⟩) hbs).trans HR.out) hr0 hr1).mono ?_
      rintro e w1 ⟨rfl, hb1⟩
      rw [Int.toNat_natCast, show spOf M.oa M.r1 n = p from HP.out.symm]
      simp only [Sp.v]
      go_wp2_with fail
      obtain ⟨W1, hW1⟩ : ∃ W1, W1 = w1.alloc (.cells p.arr 56) := ⟨_, rfl⟩
      have hW1' : w1.alloc (.cells #[.int .i64 p.x, .int .i64 p.y, .int .i64 p.w, .int .i64 p.h, .int .u8 p.tile, .int .u8 p.pal, .int .u8 p.prio, .bool p.sec, .bool p.fx, .bool p.fy] 56) = W1 := hW1.symm
      rw [hW1']
      have hob : W1.heap[w1.heap.size]? = some (.cells p.arr 56 (0, 0)) := by rw [hW1]; exact heap_alloc_new w1 _
      have hbW1 : Below (w.heap.size + 2) W0 W1 := by rw [hW1]; exact (hbel.trans (hb1.mono hsz)).alloc (Nat.le_trans hsz hb1.size) _
      have hz1 : W1.heap.size = w1.heap.size + 1 := by rw [hW1]; simp
      have hgc : W1.cell? ⟨g, j, none⟩ = some (.int .i64 (n : Int)) := by
        rw [hW1]; exact (World.cell?_alloc_past _ _ _ (block_lt_of_cell (cell_later hb1 hcell))).trans (cell_later hb1 hcell)
      have hgl : g < W1.heap.size := block_lt_of_cell hgc
      have hzz : w.heap.size + 2 ≤ w1.heap.size := Nat.le_trans hsz hb1.size
      obtain ⟨bp, hbp⟩ : ∃ bp, bp = w1.heap.size := ⟨_, rfl⟩
      rw [← hbp] at hob hz1 hzz ⊢
      clear hW1 hW1' hbp hcell hc0 hc1 hbw hb1 hbel hsz hdl
      obtain ⟨wo, rfl⟩ : ∃ wo : World, wo = wr := ⟨_, rfl⟩
      go_loopw [12] (fun i wi => ∃ k : Nat, k ≤ K ∧ i = .int .i64 k ∧ rdotS M n x S = rdotS M n x (S.drop k) ∧ Below (bp + 1) W1 wi) (fun i _ => K - (intOf i).toNat)
      case atStart => exact ⟨0, by omega, rfl, rfl, Below.refl _ _⟩
      case round =>
        obtain ⟨k, hk, rfl, hrs, hbel⟩ := hrel
        have HRS := Lib.hid hrs
        clear hrs
        have hbe : Below (w.heap.size + 2) W0 wr := hbW1.trans (hbel.mono (by omega))
        obtain ⟨hbw, hc0, hc1, hd, hsz⟩ := HF.out wr hbe
        have hob' := (hbel.block bp (by omega)).trans hob
        have hsz2 : bp + 1 ≤ wr.heap.size := by have := hbel.size; omega
        by_cases hkK : k < K
        · have t2 : decide ((k : Int) < K) = true := decide_eq_true (by omega)
          have hkS : k < S.length := by rw [← HK.out]; exact hkK
          obtain ⟨s, hs⟩ : ∃ s, s = S[k] := ⟨_, rfl⟩
          have hso : SlOk M y s := by rw [hs]; exact HS.out _ (List.getElem_mem _)
          have hcells : ∃ q, sa = some ⟨q, 0, none⟩ ∧ wr.cell? ⟨q, k * 4, none⟩ = some (.int .i64 s.sp) ∧ wr.cell? ⟨q, k * 4 + 1, none⟩ = some (.int .i64 s.x) ∧ wr.cell? ⟨q, k * 4 + 2, none⟩ = some (.int .i64 s.col) ∧ wr.cell? ⟨q, k * 4 + 3, none⟩ = some (.int .i64 s.row) := by
            rcases HSX.out with h0 | ⟨q, hg, hg1, hg2, hg3, hg4⟩
            · omega
            · obtain ⟨a1, a2, a3, a4⟩ := hg3 k hkS
              rw [hs]
              exact ⟨q, hg, (hbw.cell (p := ⟨q, _, none⟩) hg2).trans a1, (hbw.cell (p := ⟨q, _, none⟩) hg2).trans a2, (hbw.cell (p := ⟨q, _, none⟩) hg2).trans a3, (hbw.cell (p := ⟨q, _, none⟩) hg2).trans a4⟩
          obtain ⟨q, rfl, a1, a2, a3, a4⟩ := hcells
          have hdrop : rdotS M n x (S.drop k) = if hits M n s x then some (slDot M n s x) else rdotS M n x (S.drop (k + 1)) := by
            rw [List.drop_eq_getElem_cons hkS, ← hs]; rfl
          have HDS := Lib.hid hdrop
          have hgj : wr.cell? ⟨g, j, none⟩ = some (.int .i64 (n : Int)) := by
            have : g < bp + 1 := by omega
            exact (hbel.cell (p := ⟨g, j, none⟩) this).trans hgc
          clear hdrop hs hkS HSX
          have k0 : (0 : Int) ≤ (k : Int) := by omega
          have k1 : (k : Int) < K := by omega
          have p0 : wr.cell? ⟨bp, 0, none⟩ = some (.int .i64 p.x) := cell_of_row _ _ _ _ _ _ hob'
          have p1 : wr.cell? ⟨bp, 1, none⟩ = some (.int .i64 p.y) := cell_of_row _ _ _ _ _ _ hob'
          have p2 : wr.cell? ⟨bp, 2, none⟩ = some (.int .i64 p.w) := cell_of_row _ _ _ _ _ _ hob'
          have p3 : wr.cell? ⟨bp, 3, none⟩ = some (.int .i64 p.h) := cell_of_row _ _ _ _ _ _ hob'
          have p4 : wr.cell? ⟨bp, 4, none⟩ = some (.int .u8 p.tile) := cell_of_row _ _ _ _ _ _ hob'
          have p5 : wr.cell? ⟨bp, 5, none⟩ = some (.int .u8 p.pal) := cell_of_row _ _ _ _ _ _ hob'
          have p6 : wr.cell? ⟨bp, 6, none⟩ = some (.int .u8 p.prio) := cell_of_row _ _ _ _ _ _ hob'
          have p7 : wr.cell? ⟨bp, 7, none⟩ = some (.bool p.sec) := cell_of_row _ _ _ _ _ _ hob'
          have p8 : wr.cell? ⟨bp, 8, none⟩ = some (.bool p.fx) := cell_of_row _ _ _ _ _ _ hob'
          have p9 : wr.cell? ⟨bp, 9, none⟩ = some (.bool p.fy) := cell_of_row _ _ _ _ _ _ hob'
          have l1 := block_lt_of_cell a1
          have l2 := block_lt_of_cell hgj
          have l3 : bp < wr.heap.size := by omega
          have l4 : w.heap.size < wr.heap.size := by omega
          have HOB := Lib.hid hob'
          have HDL := Lib.hid hd
          clear hob' hd
          by_cases h1 : s.sp = (n : Int)
          · have b1 : (s.sp != (n : Int)) = false := by simpa using h1
            obtain ⟨n', hn', hsp, hcol0, hcol1, hsx, hrow, hsr⟩ := hso.sp
            obtain rfl : n' = n := by omega
            clear h1 hsp
            have hpo := HPO.out
            have hrb := rowOf_bd _ y hrow
            rw [← hsr, ← HP.out] at hrb
            rw [← HP.out] at hcol1 hsx
            clear hsr hrow
            have hw8 := hpo.w1
            have hpx0 := hpo.x0
            have hpx1 := hpo.x1
            by_cases h2 : x < s.x
            · have b2 : decide (x < s.x) = true := decide_eq_true h2
              have HM := Lib.hid (show hits M n' s x = false by unfold hits; rw [decide_eq_false (p := s.x ≤ x) (by omega)]; simp)
              clear h2 hsx hcol0 hcol1 hpo hrb
              go_wp2_with fail
              go_quiet (fail)
              go_wp2_with fail
              go_roundw
              case rel =>
                refine ⟨k + 1, by omega, by go_num, ?_, below_drewN' (hbel.alloc hsz2 _) _⟩
                rw [HRS.out, HDS.out, HM.out]; rfl
              case measure => simp [intOf]; omega
            · have b2 : decide (x < s.x) = false := decide_eq_false h2
              by_cases h3 : s.x + 7 < x
              · have b3 : decide (s.x + 7 < x) = true := decide_eq_true h3
                have HM := Lib.hid (show hits M n' s x = false by unfold hits; rw [decide_eq_false (p := x ≤ s.x + 7) (by omega)]; simp)
                have hsx2 : s.x ≤ 255 := by omega
                have hsx3 : -256 ≤ s.x := by omega
                clear h2 h3 hsx hcol0 hcol1 hpo hrb
                go_wp2_with fail
                go_quiet (fail)
                go_wp2_with fail
                go_roundw
                case rel =>
                  refine ⟨k + 1, by omega, by go_num, ?_, below_drewN' (hbel.alloc hsz2 _) _⟩
                  rw [HRS.out, HDS.out, HM.out]; rfl
                case measure => simp [intOf]; omega
              · have b3 : decide (s.x + 7 < x) = false := decide_eq_false h3
                have hsx2 : s.x ≤ 255 := by omega
                have hsx3 : -256 ≤ s.x := by omega
                have hix0 : 0 ≤ x - p.x := by omega
                have hix1 : x - p.x < p.w := by omega
                have hiy0 := hrb.1
                have hiy1 := hrb.2
                have HM := Lib.hid (show hits M n' s x = decide (0 < slNum M n' s x) by unfold hits; rw [decide_eq_true (p := s.x ≤ x) (by omega), decide_eq_true (p := x ≤ s.x + 7) (by omega), decide_eq_true (p := s.sp = (n' : Int)) (by simpa using b1)]; simp)
                clear h2 h3 hsx hcol0 hcol1 hrb hpo
                go_wp2_with fail
                go_quiet (fail)
                go_wp2_with fail
                refine (rnumber_in bv bs so p (x - p.x) s.row M.r1 M.vr M.oa M.cg HPO.out hiy0 hiy1 hix0 hix1 _ (HV.out.below (below_drewN' (hbw.alloc (by omega) _) _) hbv) (((below_drewN' (hbw.alloc (by omega) _) _).cell (p := ⟨bs, so + 1, none⟩) hbs).trans HR.out) hr0 hr1).mono ?_
                rintro e w4 ⟨rfl, hb4⟩
                have hb45 : Below wr.heap.size wr w4 := (below_drewN' ((Below.refl _ wr).alloc (Nat.le_refl _) _) _).trans (hb4.mono (by simp))
                have hbe4 := hbe.trans (hb45.mono hsz)
                obtain ⟨hbw4, hc04, hc14, hd4, hsz4⟩ := HF.out w4 hbe4
                have hC : numOf M.vr M.r1 p (x - p.x) s.row = slNum M n' s x := by rw [HP.out]; rfl
                have hCb : 0 ≤ slNum M n' s x ∧ slNum M n' s x ≤ 15 := numOf_bd M _ _ _
                have hpal := pal_bd M n'
                rw [← HP.out] at hpal
                rw [hC]
                obtain ⟨C, hCe⟩ : ∃ C, C = slNum M n' s x := ⟨_, rfl⟩
                rw [← hCe] at hCb ⊢
                have HCE := Lib.hid hCe
                clear hC hCe hb4
                have p54 : w4.cell? ⟨bp, 5, none⟩ = some (.int .u8 p.pal) := cell_later hb45 p5
                have p64 : w4.cell? ⟨bp, 6, none⟩ = some (.int .u8 p.prio) := cell_later hb45 p6
                clear p0 p1 p2 p3 p4 p5 p6 p7 p8 p9 a1 a2 a3 a4 b1 b2 b3 hc0 hc1 hgj hc04 hc14 l1 l2 l3 hbw hbe hix0 hix1 hiy0 hiy1
                by_cases h4 : 0 < C
                · have e4 : decide (0 < C) = true := decide_eq_true h4
                  have hi0 : 0 ≤ 128 + 16 * p.pal + C := by omega
                  have hi1 : 128 + 16 * p.pal + C < 256 := by omega
                  have hcgc : w4.cell? ⟨bv, 33312 + (128 + 16 * p.pal + C).toNat, none⟩ = some (.int .u16 (M.cg (128 + 16 * p.pal + C).toNat)) := (HV.out.below hbw4 hbv).cg _ (by omega)
                  have hdd0 : w4.cell? ⟨w.heap.size + 1, 0, none⟩ = some (.bool false) := cell_of_row _ _ _ _ _ _ hd4
                  have hdd1 : w4.cell? ⟨w.heap.size + 1, 1, none⟩ = some (.int .u8 0) := cell_of_row _ _ _ _ _ _ hd4
                  have hdd2 : w4.cell? ⟨w.heap.size + 1, 2, none⟩ = some (.int .u8 0) := cell_of_row _ _ _ _ _ _ hd4
                  have hdd3 : w4.cell? ⟨w.heap.size + 1, 3, none⟩ = some (.int .u16 0) := cell_of_row _ _ _ _ _ _ hd4
                  have hfz := zdot_cell hd4
                  have x1 := IntWalk.u8_in (128 + 16 * p.pal + C) (by omega)
                  clear h4 hd4
                  go_wp2_with fail
                  refine region_tail 11 (by kernel_rfl) (by kernel_rfl) ?_
                  simp only [List.take_succ_cons, List.take_zero, List.drop_succ_cons, List.drop_zero]
                  repeat still_step
                  refine wpStill_nil ?_
                  go_wp2
                  have hfin : rdotL M S x L = slDot M n' s x := by
                    rw [HRD.out, HD.out, HRS.out, HDS.out, HM.out, ← HCE.out, e4]; rfl
                  refine bodyPost_ret (v := .agg #[.bool true, .int .u8 p.prio, .int .u8 (128 + 16 * p.pal + C), .int .u16 (M.cg (128 + 16 * p.pal + C).toNat)]) ?_ rfl ⟨?_, ?_⟩
                  · simp [results, Try.results23, go_sem, hdd0, hdd1, hdd2, hdd3]
                  · rw [hfin]
                    unfold slDot Dt.cs
                    rw [← HCE.out, ← HP.out]
                  · exact ((((hbw4.setCell (by simp) _).setCell (by simp) _).setCell (by simp) _).setCell (by simp) _).drew
                · have e4 : decide (0 < C) = false := decide_eq_false h4
                  have HM2 := Lib.hid (show hits M n' s x = false by rw [HM.out, ← HCE.out, e4])
                  clear h4
                  go_wp2_with fail
                  go_roundw
                  case rel =>
                    refine ⟨k + 1, by omega, by go_num, ?_, hbel.trans (hb45.mono (by omega))⟩
                    rw [HRS.out, HDS.out, HM2.out]; rfl
                  case measure => simp [intOf]; omega
          · have b1 : (s.sp != (n : Int)) = true := by simpa using h1
            clear h1
            go_wp2_with fail
            go_quiet (fail)
            go_wp2_with fail
            go_roundw
            case rel =>
              refine ⟨k + 1, by omega, by go_num, ?_, below_drewN' (hbel.alloc hsz2 _) _⟩
              have hb1' : s.sp ≠ (n : Int) := by simpa using b1
              rw [HRS.out, HDS.out]; unfold hits; simp [hb1']
            case measure => simp [intOf]; omega
        · obtain rfl : k = K := by omega
          have t2 : decide ((k : Int) < k) = false := decide_eq_false (by omega)
          have hnone : rdotS M n x S = Option.none := by rw [HRS.out, HK.out, List.drop_length]; rfl
          have HNO := Lib.hid hnone
          clear hnone hd hob'
          go_wp2_with fail
          go_roundw
          case rel =>
            refine ⟨j + 1, by omega, by go_num, ?_, hbe⟩
            rw [HRD.out, HD.out, HNO.out]
          case measure => simp [intOf]; omega
    · obtain rfl : j = N := by omega
      have t1 : decide ((j : Int) < j) = false := decide_eq_false (by omega)
      have hfin : rdotL M S x L = Dt.none := by rw [HRD.out, HN.out, List.drop_length]; rfl
      have HFI := Lib.hid hfin
      have hdd0 : wr.cell? ⟨w.heap.size + 1, 0, none⟩ = some (.bool false) := cell_of_row _ _ _ _ _ _ hd
      have hdd1 : wr.cell? ⟨w.heap.size + 1, 1, none⟩ = some (.int .u8 0) := cell_of_row _ _ _ _ _ _ hd
      have hdd2 : wr.cell? ⟨w.heap.size + 1, 2, none⟩ = some (.int .u8 0) := cell_of_row _ _ _ _ _ _ hd
      have hdd3 : wr.cell? ⟨w.heap.size + 1, 3, none⟩ = some (.int .u16 0) := cell_of_row _ _ _ _ _ _ hd
      have hfz := zdot_cell hd
      clear hfin hd
      go_wp2_with fail
      refine bodyPost_ret (v := .agg #[.bool false, .int .u8 0, .int .u8 0, .int .u16 0]) ?_ rfl ⟨?_, ?_⟩
      · simp [results, Try.results23, go_sem, hdd0, hdd1, hdd2, hdd3]
      · rw [HFI.out]; rfl
      · exact (((hbw.setCell (by simp) _).setCell (by simp) _).setCell (by simp) _).setCell (by simp) _
end Go.Proofs.Ytoaecfaackkicaa
