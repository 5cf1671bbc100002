/- The walks of the document's number of a sprite's dot. -/
import Derived.Test.YtoaecfaackkicaaRefB
namespace Go.Proofs.Ytoaecfaackkicaa
open Go Go.RowKit

theorem rbit_i (x n : Int) (h0 : 0 ≤ x) (h1 : x ≤ 65535) (n0 : 0 ≤ n) (hn : n ≤ 100) (w : World) :
    Calls Try.prog 33 #[.int .i64 x, .int .i64 n] w fun e w' => e = .returned (.int .i64 (x / 2 ^ n.toNat % 2)) ∧ w' = w := by
  obtain ⟨k, rfl⟩ := Int.eq_ofNat_of_zero_le n0
  exact rbit_any x k h0 h1 (by omega) w

set_option maxRecDepth 100000 in
set_option maxHeartbeats 1000000 in
theorem rbits_4 (bv base tile ix iy : Nat) (vr oa cg : Nat → Int) (hb : base < 32768) (ht : tile < 1024) (hx : ix < 8) (hy : iy < 8) (w : World) (hv : VidAt w bv vr oa cg) :
    Calls Try.prog 32 #[.pointer (some ⟨bv, 0, none⟩), .int .i64 base, .int .i64 tile, .int .i64 4, .int .i64 ix, .int .i64 iy] w fun e w' => e = .returned (.int .u8 (bitsOf vr base tile 4 ix iy)) ∧ w' = w := by
  have d1 : decide ((base : Int) < 0) = false := decide_eq_false (by omega)
  have d2 : decide ((32767 : Int) < base) = false := decide_eq_false (by omega)
  have d3 : decide ((tile : Int) < 0) = false := decide_eq_false (by omega)
  have d4 : decide ((1023 : Int) < tile) = false := decide_eq_false (by omega)
  have d5 : decide ((ix : Int) < 0) = false := decide_eq_false (by omega)
  have d6 : decide ((7 : Int) < ix) = false := decide_eq_false (by omega)
  have d7 : decide ((iy : Int) < 0) = false := decide_eq_false (by omega)
  have d8 : decide ((7 : Int) < iy) = false := decide_eq_false (by omega)
  obtain ⟨q, hq1, hq2⟩ : ∃ q : Int, (base : Int) ≤ 256 * q + 255 ∧ q ≤ 127 := ⟨base / 256, by omega, by omega⟩
  obtain ⟨q', hq3, hq4⟩ : ∃ q : Int, (tile : Int) ≤ 256 * q + 255 ∧ q ≤ 3 := ⟨tile / 256, by omega, by omega⟩
  have HV := Lib.hid hv.vram
  have HB := Lib.hid hv.vrB
  clear hb ht hv
  go_enter Try.func32, Try.ntmps32
  go_wp2
  go_loop [13, 14, 15] (fun c wo i => ∃ k : Nat, k ≤ 2 ∧ i = .int .i64 k ∧ ∃ wk : Int, 1 ≤ wk ∧ wk ≤ 256 ∧ wk = 4 ^ k ∧ wo = .int .i64 wk ∧ ∃ y : Int, 0 ≤ y ∧ y < wk ∧ y = bitsTo vr base tile 4 ix iy k ∧ c = .int .i64 y) (fun _ _ i => 2 - (intOf i).toNat)
  case atStart => exact ⟨0, by omega, rfl, 1, by omega, by omega, by simp, rfl, 0, by omega, by omega, rfl, rfl⟩
  case round =>
    clear d1 d2 d3 d4 d5 d6 d7 d8
    obtain ⟨k, hk, rfl, wk, wk0, wk1, hwk, rfl, y, hy0, hy1, hye, rfl⟩ := hrel
    have HW := Lib.hid hwk
    have HY := Lib.hid hye
    clear hwk hye
    by_cases hlt : k < 2
    · have ha' : w.cell? ⟨bv, (base + 16 * tile + 8 * k + iy) % 32768, none⟩ = some (.int .u16 (bitW vr base tile 4 iy k)) := HV.out _ (by omega)
      have hWb := HB.out ((base + 4 * 4 * tile + 8 * k + iy) % 32768)
      have t1 : decide ((k : Int) < 2) = true := decide_eq_true (by omega)
      have i1 : (0 : Int) ≤ ((base : Int) + 16 * (tile : Int) + 8 * (k : Int) + (iy : Int)) % 32768 := by omega
      have i2 : ((base : Int) + 16 * (tile : Int) + 8 * (k : Int) + (iy : Int)) % 32768 < 32768 := by omega
      obtain ⟨W, hW⟩ : ∃ W, W = bitW vr base tile 4 iy k := ⟨_, rfl⟩
      have hW0 : 0 ≤ W := by rw [hW]; exact hWb.1
      have hW1 : W ≤ 256 * 255 + 255 := by rw [hW]; exact hWb.2
      obtain ⟨p, hp1, hp2⟩ : ∃ p : Int, W ≤ 256 * p + 255 ∧ p ≤ 255 := ⟨W / 256, by omega, by omega⟩
      rw [← hW] at ha'
      have HWW := Lib.hid hW
      clear hW hWb hW1
      have hbt := Lib.hid (bit2_bd W ix)
      have m1 : 4 ^ (k + 1) = 4 * wk := by rw [HW.out, Int.pow_succ]; omega
      have hk3 : k < 2 := hlt
      have w63 : wk ≤ 64 := by
        rw [HW.out]; have : (4 : Int) ^ k ≤ 4 ^ 3 := by exact_mod_cast Nat.pow_le_pow_right (n := 4) (by decide) (show k ≤ 3 by omega)
        omega
      have M1 := Lib.hid m1
      clear m1
      obtain ⟨c0, hc0⟩ : ∃ c0, c0 = W / 2 ^ (7 - ix) % 2 := ⟨_, rfl⟩
      obtain ⟨c1, hc1⟩ : ∃ c1, c1 = W / 2 ^ (15 - ix) % 2 := ⟨_, rfl⟩
      have e0 : 0 ≤ c0 ∧ c0 ≤ 1 := by omega
      have e1 : 0 ≤ c1 ∧ c1 ≤ 1 := by omega
      have f0 : 0 ≤ c0 * wk ∧ c0 * wk ≤ wk := by rcases (show c0 = 0 ∨ c0 = 1 by omega) with rfl | rfl <;> omega
      have f1 : 0 ≤ c1 * 2 * wk ∧ c1 * 2 * wk ≤ 2 * wk := by rcases (show c1 = 0 ∨ c1 = 1 by omega) with rfl | rfl <;> omega
      have C0 := Lib.hid hc0
      have C1 := Lib.hid hc1
      clear hc0 hc1
      have j0 : (7 - (ix : Int)).toNat = 7 - ix := by omega
      have j1 : (15 - (ix : Int)).toNat = 15 - ix := by omega
      go_wp2_with fail
      refine (rbit_i _ _ (by omega) (by omega) (by omega) (by omega) _).mono ?_
      rintro e w' ⟨rfl, rfl⟩
      rw [j0, ← C0.out]
      go_wp2_with fail
      refine (rbit_i _ _ (by omega) (by omega) (by omega) (by omega) _).mono ?_
      rintro e w' ⟨rfl, rfl⟩
      rw [j1, ← C1.out]
      go_wp2_with fail
      go_round
      case rel =>
        refine ⟨k + 1, by omega, by go_num, wk * 4, by omega, by omega, by rw [M1.out]; omega, rfl, y + c0 * wk + c1 * 2 * wk, by omega, by omega, ?_, rfl⟩
        rw [HY.out, C0.out, C1.out, HW.out, HWW.out]
        show _ = bitsTo vr base tile 4 ix iy k + bit2 (bitW vr base tile 4 iy k) ix * 4 ^ k
        unfold bit2
        rw [Int.add_mul, Int.add_assoc]
      case measure => simp [intOf]; omega
    · obtain rfl : k = 2 := by omega
      have hy2 : y % 256 = y := by have := HW.out; simp at this; omega
      go_wp2
      go_ret
      exact ⟨ret_i HY.out, rfl⟩
end Go.Proofs.Ytoaecfaackkicaa
