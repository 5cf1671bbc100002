/- The walk of the document's list of the sprites that are on a line. -/
import Derived.Test.YtoaecfaackkicaaLists
import Derived.Deep.AppendLies
import Derived.Test.YtoaecfaackkicaaRefB
namespace Go.Proofs.Ytoaecfaackkicaa
open Go Go.RowKit

def onLine (p : Sp) (y : Int) : Bool := (rowOf p y).2 && decide (0 < p.x + p.w)
def ixOf (first k : Nat) : Nat := (first + k) % 128
def candTo (oa : Nat → Int) (r1 : Int) (first : Nat) (y : Int) : Nat → List Nat
  | 0 => []
  | k + 1 => candTo oa r1 first y k ++ (if onLine (spOf oa r1 (ixOf first k)) y then [ixOf first k] else [])
def ints (l : List Nat) : List Int := l.map fun n : Nat => (n : Int)
theorem candTo_len (oa : Nat → Int) (r1 : Int) (first : Nat) (y : Int) (k : Nat) : (candTo oa r1 first y k).length ≤ k := by
  induction k with
  | zero => simp [candTo]
  | succ k ih => simp only [candTo, List.length_append]; split <;> simp <;> omega

theorem Try.infoInt : (Try.prog.info? 3).map (fun i => (i.zero, i.size, i.bytes)) = some (some (.int .i64 0), 1, 8) := by kernel_rfl

theorem spOf_y (oa : Nat → Int) (h : ∀ i, 0 ≤ oa i ∧ oa i ≤ 255) (r1 : Int) (k : Nat) : 0 ≤ (spOf oa r1 k).y ∧ (spOf oa r1 k).y ≤ 255 := h _
theorem szOf_bd (a : Int) (b : Bool) : 8 ≤ (szOf a b).1 ∧ (szOf a b).1 ≤ 64 ∧ 8 ≤ (szOf a b).2 ∧ (szOf a b).2 ≤ 64 := by
  unfold szOf; cases b <;> (repeat' split) <;> simp
theorem szOf_8 (a : Int) (b : Bool) : (szOf a b).1 % 8 = 0 := by
  unfold szOf; cases b <;> (repeat' split) <;> simp
theorem spOf_bd (oa : Nat → Int) (h : ∀ i, 0 ≤ oa i ∧ oa i ≤ 255) (r1 : Int) (k : Nat) : -256 ≤ (spOf oa r1 k).x ∧ (spOf oa r1 k).x ≤ 255 ∧ 8 ≤ (spOf oa r1 k).w ∧ (spOf oa r1 k).w ≤ 64 ∧ 8 ≤ (spOf oa r1 k).h ∧ (spOf oa r1 k).h ≤ 64 := by
  have h0 := h (4 * k)
  have hs := szOf_bd (r1 / 32) (hiOf oa k / 2 % 2 * 2 != 0)
  refine ⟨?_, ?_, hs.1, hs.2.1, hs.2.2.1, hs.2.2.2⟩ <;> simp only [spOf] <;> omega

set_option maxRecDepth 100000 in
set_option maxHeartbeats 2000000 in
theorem found_any (bv bs so first : Nat) (y : Int) (vr oa cg : Nat → Int) (r1 : Int) (hf : first < 128) (w : World) (hv : VidAt w bv vr oa cg) (hr : w.cell? ⟨bs, so + 1, none⟩ = some (.int .u8 r1)) (hr0 : 0 ≤ r1) (hr1 : r1 ≤ 255) :
    Calls Try.prog 21 #[.pointer (some ⟨bv, 0, none⟩), .pointer (some ⟨bs, so, none⟩), .int .i64 first, .int .i64 y] w fun e w' => ∃ v, e = .returned v ∧ OwnI w.heap.size w' v (ints (candTo oa r1 first y 128)) ∧ Below w.heap.size w w' := by
  have hbv := hv.lt
  have hbs : bs < w.heap.size := block_lt_of_cell hr
  have hoa := hv.oamB
  have HV := Lib.hid hv
  have HR := Lib.hid hr
  have HO := Lib.hid hoa
  clear hv hr hoa
  obtain ⟨i0, hi, hz0, hz1, hz2⟩ := info_parts Try.infoInt
  obtain ⟨B, hB⟩ : ∃ B, B = w.heap.size := ⟨_, rfl⟩
  rw [← hB] at hbv hbs ⊢
  have hBw : B ≤ w.heap.size := by omega
  have HB := Lib.hid hB
  clear hB
  go_enter Try.func21, Try.ntmps21
  go_wp2
  go_loopw [9, 10] (fun v i wr => ∃ k : Nat, k ≤ 128 ∧ i = .int .i64 k ∧ OwnI B wr v (ints (candTo oa r1 first y k)) ∧ Below B w wr) (fun _ i _ => 128 - (intOf i).toNat)
  case atStart => exact ⟨0, by omega, rfl, (World.ownsRow_nil _ _ _ _ : World.ownsRow _ _ _ _ _ 0 []), Below.refl _ _⟩
  case round =>
    obtain ⟨k, hk, rfl, hown, hbel⟩ := hrel
    by_cases hlt : k < 128
    · have t1 : decide ((k : Int) < 128) = true := decide_eq_true (by omega)
      have hBr : B ≤ wr.heap.size := Nat.le_trans hBw hbel.size
      obtain ⟨p, hp⟩ : ∃ p, p = spOf oa r1 (ixOf first k) := ⟨_, rfl⟩
      have hix : (((first : Int) + (k : Int)) % 128).toNat = ixOf first k := by unfold ixOf; omega
      have hix' : ((first : Int) + (k : Int)) % 128 = ((ixOf first k : Nat) : Int) := by unfold ixOf; omega
      have hpy := spOf_y oa HO.out r1 (ixOf first k)
      have hpb := spOf_bd oa HO.out r1 (ixOf first k)
      rw [← hp] at hpy hpb
      have HP := Lib.hid hp
      have HI := Lib.hid hix
      have HI' := Lib.hid hix'
      clear hp hix hix'
      go_wp2_with fail
      refine (rof_any bv bs so _ vr oa cg r1 (by omega) (by omega) _ (HV.out.below hbel hbv) ((hbel.cell (p := ⟨bs, so + 1, none⟩) hbs).trans HR.out) hr0 hr1).mono ?_
      rintro e w1 ⟨rfl, hb1⟩
      rw [HI.out, ← HP.out]
      simp only [Sp.v]
      go_wp2_with fail
      refine (rrow_any p y hpy.1 hpy.2 _).mono ?_
      rintro e w2 ⟨rfl, hb2⟩
      obtain ⟨hc2, hf2⟩ := bcell hb2
      have hz2' : w1.heap.size < w2.heap.size := by have := hb2.size; simp at this; omega
      by_cases hon : onLine p y = true
      · have hon' := hon
        unfold onLine at hon'
        simp only [Bool.and_eq_true] at hon'
        obtain ⟨o1, o2⟩ := hon'
        have HON := Lib.hid hon
        clear hon
        have hown2 : OwnI B w2 u9 (ints (candTo oa r1 first y k)) := OwnI.full (World.ownsRow.alloc (hown.full hb1) _) hb2
        have hlen : (ints (candTo oa r1 first y k)).length ≤ 128 := by have := candTo_len oa r1 first y k; simp [ints]; omega
        have hb2B : Below B w w2 := (hbel.trans (hb1.mono hBr)).trans (((Below.refl B w1).alloc (Nat.le_trans hBr hb1.size) _).trans (hb2.mono (by have := hb1.size; simp; omega)))
        have hBw2 : B ≤ w2.heap.size := Nat.le_trans hBw hb2B.size
        clear hown
        go_wp2_with (at_builtin; go_must (refine wpList_append_own _ rfl _ _ 35 rfl B 3 i0 (.int .i64 0) 1 8 Try.underlying35 hi hz0 hz1 hz2 rfl (by decide) _ _ _ rfl (World.ownsRow.alloc hown2 _) ⟨w2.heap.size, 0, none⟩ 1 1 [.int .i64 (((first : Int) + (k : Int)) % 128)] rfl rfl (World.news_of_block (cs := #[.int .i64 (((first : Int) + (k : Int)) % 128)]) (t := 3) (fr := (0, 0)) (heap_alloc_new w2 _)) (by simp [Value.oneCell']) (by simp only [maxLen]; omega) (by omega) (by simp; omega) ?_); intro v' w3 hown3 hgrow hnil)
        go_roundw
        case rel =>
          refine ⟨k + 1, by omega, by go_num, ?_, ?_⟩
          · have e : ints (candTo oa r1 first y (k + 1)) = ints (candTo oa r1 first y k) ++ [((first : Int) + (k : Int)) % 128] := by
              simp only [candTo, ints, List.map_append]; rw [← HP.out, HON.out, HI'.out]; simp
            rw [e]
            unfold OwnI
            simpa [iv] using hown3
          · exact (hb2B.alloc hBw2 _).grown hgrow (by simp; omega) (fun g hg => (World.ownsRow.lt hown2 g (show u9.ownBlock = some g from hg)).1)
        case measure => simp [intOf]; omega
      · have hon0 : onLine p y = false := by simpa using hon
        have HON := Lib.hid hon0
        have hown2 : OwnI B w2 u9 (ints (candTo oa r1 first y k)) := OwnI.full (World.ownsRow.alloc (hown.full hb1) _) hb2
        have hb2B : Below B w w2 := (hbel.trans (hb1.mono hBr)).trans (((Below.refl B w1).alloc (Nat.le_trans hBr hb1.size) _).trans (hb2.mono (by have := hb1.size; simp; omega)))
        have e : ints (candTo oa r1 first y (k + 1)) = ints (candTo oa r1 first y k) := by simp only [candTo]; rw [← HP.out, HON.out]; simp
        have HE := Lib.hid e
        have HW := Lib.hid hown2
        clear hown hon hown2 e
        unfold onLine at hon0
        have hc : (rowOf p y).2 = false ∨ ((rowOf p y).2 = true ∧ decide (0 < p.x + p.w) = false) := by
          cases h : (rowOf p y).2
          · exact Or.inl rfl
          · rw [h] at hon0; exact Or.inr ⟨rfl, by simpa using hon0⟩
        clear hon0
        rcases hc with o1 | ⟨o1, o2⟩
        all_goals
          go_wp2_with fail
          go_roundw
          case rel => exact ⟨k + 1, by omega, by go_num, by rw [HE.out]; exact HW.out, hb2B⟩
          case measure => simp [intOf]; omega
    · obtain rfl : k = 128 := by omega
      go_wp2_with fail
      go_ret
      exact ⟨_, rfl, hown, hbel⟩
end Go.Proofs.Ytoaecfaackkicaa
