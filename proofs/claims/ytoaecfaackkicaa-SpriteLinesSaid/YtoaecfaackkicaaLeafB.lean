/- The walk of a dot's bits: the number that a dot of a tile has. -/
import Derived.Test.YtoaecfaackkicaaLeaf
namespace Go.Proofs.Ytoaecfaackkicaa
open Go Go.RowKit

theorem bits_or_comm (k : IntKind) (x y : Int) : bits .or k x y = bits .or k y x := by
  unfold bits; simp only [BitVec.or_comm]

theorem or_step (c W : Int) (ix k : Nat) (hk : k ≤ 3) (hx : ix < 8) (h0 : 0 ≤ c) (h1 : c < 4 ^ k) :
    bits .or .u8 c (bits .or .u16 (W / 2 ^ (7 - ix) % 2) (W / 2 ^ (7 - ix) / 256 % 2 * 2) % 256 * 2 ^ (2 * k) % 256) = c + bit2 W ix * 4 ^ k := by
  have e1 : W / 2 ^ (7 - ix) / 256 = W / 2 ^ (15 - ix) := by
    rw [Int.ediv_ediv_of_nonneg (Int.le_of_lt (Int.pow_pos (by decide))), show (15 - ix) = (7 - ix) + 8 by omega, Int.pow_add]; rfl
  have e2 : bits .or .u16 (W / 2 ^ (7 - ix) % 2) (W / 2 ^ (7 - ix) / 256 % 2 * 2) = bit2 W ix := by
    rw [bits_or_comm, or_join .u16 1 _ _ (by omega) (by omega) (by simp) (by simp; omega) (by simp [IntKind.signed, IntKind.bits]; omega), e1]
    unfold bit2; omega
  rw [e2]
  have hb := bit2_bd W ix
  generalize bit2 W ix = v at hb
  have e3 : v % 256 = v := by omega
  rw [e3, bits_or_comm]
  have : k = 0 ∨ k = 1 ∨ k = 2 ∨ k = 3 := by omega
  rcases this with rfl | rfl | rfl | rfl <;> simp at h1 ⊢
  · rw [show v % 256 = v by omega, show c = 0 by omega]
    have := or_join .u8 0 v 0 hb.1 (by omega) (by simp) (by simp) (by simp [IntKind.signed, IntKind.bits]; omega)
    omega
  · rw [show v * 4 % 256 = v * 4 by omega]
    have := or_join .u8 2 (v * 4) c (by omega) h0 (by simp) (by simpa using h1) (by simp [IntKind.signed, IntKind.bits]; omega)
    omega
  · rw [show v * 16 % 256 = v * 16 by omega]
    have := or_join .u8 4 (v * 16) c (by omega) h0 (by simp) (by simpa using h1) (by simp [IntKind.signed, IntKind.bits]; omega)
    omega
  · rw [show v * 64 % 256 = v * 64 by omega]
    have := or_join .u8 6 (v * 64) c (by omega) h0 (by simp) (by simpa using h1) (by simp [IntKind.signed, IntKind.bits]; omega)
    omega

set_option maxRecDepth 100000 in
set_option maxHeartbeats 1000000 in
theorem bits_2 (bv base tile ix iy : Nat) (vr oa cg : Nat → Int) (hb : base < 32768) (ht : tile < 1024) (hx : ix < 8) (hy : iy < 8) (w : World) (hv : VidAt w bv vr oa cg) :
    Calls Try.prog 25 #[.pointer (some ⟨bv, 0, none⟩), .int .i64 base, .int .i64 tile, .int .i64 2, .int .i64 ix, .int .i64 iy] w fun e w' => e = .returned (.int .u8 (bitsOf vr base tile 2 ix iy)) ∧ w' = w := by
  have ax : (bits .andNot .i64 (ix : Int) 7 != 0) = false := by
    have := andNot_range .i64 0 3 (ix : Int) (by decide) (by omega) (by simp [IntKind.signed, IntKind.bits]; omega)
    simp at this; rw [this]; simp; omega
  have ay : (bits .andNot .i64 (iy : Int) 7 != 0) = false := by
    have := andNot_range .i64 0 3 (iy : Int) (by decide) (by omega) (by simp [IntKind.signed, IntKind.bits]; omega)
    simp at this; rw [this]; simp; omega
  have d1 : decide ((base : Int) < 0) = false := decide_eq_false (by omega)
  have d2 : decide ((32768 : Int) ≤ base) = false := decide_eq_false (by omega)
  have d3 : decide ((tile : Int) < 0) = false := decide_eq_false (by omega)
  have d4 : decide ((1024 : Int) ≤ tile) = false := decide_eq_false (by omega)
  obtain ⟨q, hq1, hq2⟩ : ∃ q : Int, (base : Int) ≤ 256 * q + 255 ∧ q ≤ 127 := ⟨base / 256, by omega, by omega⟩
  obtain ⟨q', hq3, hq4⟩ : ∃ q : Int, (tile : Int) ≤ 256 * q + 255 ∧ q ≤ 3 := ⟨tile / 256, by omega, by omega⟩
  have HV := Lib.hid hv.vram
  clear hb ht hv
  go_enter Try.func25, Try.ntmps25
  go_wp2
  go_loop [13, 51] (fun c i => ∃ k : Nat, k ≤ 1 ∧ i = .int .i64 k ∧ c = .int .u8 (bitsTo vr base tile 2 ix iy k)) (fun _ i => 1 - (intOf i).toNat)
  case atStart => exact ⟨0, by omega, rfl, rfl⟩
  case round =>
    clear d1 d2 d3 d4
    obtain ⟨k, hk, rfl, rfl⟩ := hrel
    by_cases hlt : k < 1
    · have ha' : w.cell? ⟨bv, (base + 8 * tile + 8 * k + iy) % 32768, none⟩ = some (.int .u16 (bitW vr base tile 2 iy k)) := HV.out _ (by omega)
      have t1 : decide ((k : Int) < 1) = true := decide_eq_true (by omega)
      have i1 : (0 : Int) ≤ ((base : Int) + 8 * (tile : Int) + 8 * (k : Int) + (iy : Int)) % 32768 := by omega
      have i2 : ((base : Int) + 8 * (tile : Int) + 8 * (k : Int) + (iy : Int)) % 32768 < 32768 := by omega
      have hst := bitsTo_bd vr base tile 2 ix iy k
      have hor := Lib.hid (or_step (bitsTo vr base tile 2 ix iy k) (bitW vr base tile 2 iy k) ix k (by omega) hx hst.1 hst.2)
      clear hst
      go_wp2
      go_round
      case rel => exact ⟨k + 1, by omega, by go_num, by rw [hor.out]; rfl⟩
      case measure => simp [intOf]; omega
    · obtain rfl : k = 1 := by omega
      go_wp2
      go_ret
      exact ⟨rfl, rfl⟩

set_option maxRecDepth 100000 in
set_option maxHeartbeats 1000000 in
theorem bits_4 (bv base tile ix iy : Nat) (vr oa cg : Nat → Int) (hb : base < 32768) (ht : tile < 1024) (hx : ix < 8) (hy : iy < 8) (w : World) (hv : VidAt w bv vr oa cg) :
    Calls Try.prog 25 #[.pointer (some ⟨bv, 0, none⟩), .int .i64 base, .int .i64 tile, .int .i64 4, .int .i64 ix, .int .i64 iy] w fun e w' => e = .returned (.int .u8 (bitsOf vr base tile 4 ix iy)) ∧ w' = w := by
  have ax : (bits .andNot .i64 (ix : Int) 7 != 0) = false := by
    have := andNot_range .i64 0 3 (ix : Int) (by decide) (by omega) (by simp [IntKind.signed, IntKind.bits]; omega)
    simp at this; rw [this]; simp; omega
  have ay : (bits .andNot .i64 (iy : Int) 7 != 0) = false := by
    have := andNot_range .i64 0 3 (iy : Int) (by decide) (by omega) (by simp [IntKind.signed, IntKind.bits]; omega)
    simp at this; rw [this]; simp; omega
  have d1 : decide ((base : Int) < 0) = false := decide_eq_false (by omega)
  have d2 : decide ((32768 : Int) ≤ base) = false := decide_eq_false (by omega)
  have d3 : decide ((tile : Int) < 0) = false := decide_eq_false (by omega)
  have d4 : decide ((1024 : Int) ≤ tile) = false := decide_eq_false (by omega)
  obtain ⟨q, hq1, hq2⟩ : ∃ q : Int, (base : Int) ≤ 256 * q + 255 ∧ q ≤ 127 := ⟨base / 256, by omega, by omega⟩
  obtain ⟨q', hq3, hq4⟩ : ∃ q : Int, (tile : Int) ≤ 256 * q + 255 ∧ q ≤ 3 := ⟨tile / 256, by omega, by omega⟩
  have HV := Lib.hid hv.vram
  clear hb ht hv
  go_enter Try.func25, Try.ntmps25
  go_wp2
  go_loop [13, 51] (fun c i => ∃ k : Nat, k ≤ 2 ∧ i = .int .i64 k ∧ c = .int .u8 (bitsTo vr base tile 4 ix iy k)) (fun _ i => 2 - (intOf i).toNat)
  case atStart => exact ⟨0, by omega, rfl, rfl⟩
  case round =>
    clear d1 d2 d3 d4
    obtain ⟨k, hk, rfl, rfl⟩ := hrel
    by_cases hlt : k < 2
    · have ha' : w.cell? ⟨bv, (base + 16 * tile + 8 * k + iy) % 32768, none⟩ = some (.int .u16 (bitW vr base tile 4 iy k)) := HV.out _ (by omega)
      have t1 : decide ((k : Int) < 2) = true := decide_eq_true (by omega)
      have i1 : (0 : Int) ≤ ((base : Int) + 16 * (tile : Int) + 8 * (k : Int) + (iy : Int)) % 32768 := by omega
      have i2 : ((base : Int) + 16 * (tile : Int) + 8 * (k : Int) + (iy : Int)) % 32768 < 32768 := by omega
      have hst := bitsTo_bd vr base tile 4 ix iy k
      have hor := Lib.hid (or_step (bitsTo vr base tile 4 ix iy k) (bitW vr base tile 4 iy k) ix k (by omega) hx hst.1 hst.2)
      clear hst
      go_wp2
      go_round
      case rel => exact ⟨k + 1, by omega, by go_num, by rw [hor.out]; rfl⟩
      case measure => simp [intOf]; omega
    · obtain rfl : k = 2 := by omega
      go_wp2
      go_ret
      exact ⟨rfl, rfl⟩

set_option maxRecDepth 100000 in
set_option maxHeartbeats 1000000 in
theorem bits_8 (bv base tile ix iy : Nat) (vr oa cg : Nat → Int) (hb : base < 32768) (ht : tile < 1024) (hx : ix < 8) (hy : iy < 8) (w : World) (hv : VidAt w bv vr oa cg) :
    Calls Try.prog 25 #[.pointer (some ⟨bv, 0, none⟩), .int .i64 base, .int .i64 tile, .int .i64 8, .int .i64 ix, .int .i64 iy] w fun e w' => e = .returned (.int .u8 (bitsOf vr base tile 8 ix iy)) ∧ w' = w := by
  have ax : (bits .andNot .i64 (ix : Int) 7 != 0) = false := by
    have := andNot_range .i64 0 3 (ix : Int) (by decide) (by omega) (by simp [IntKind.signed, IntKind.bits]; omega)
    simp at this; rw [this]; simp; omega
  have ay : (bits .andNot .i64 (iy : Int) 7 != 0) = false := by
    have := andNot_range .i64 0 3 (iy : Int) (by decide) (by omega) (by simp [IntKind.signed, IntKind.bits]; omega)
    simp at this; rw [this]; simp; omega
  have d1 : decide ((base : Int) < 0) = false := decide_eq_false (by omega)
  have d2 : decide ((32768 : Int) ≤ base) = false := decide_eq_false (by omega)
  have d3 : decide ((tile : Int) < 0) = false := decide_eq_false (by omega)
  have d4 : decide ((1024 : Int) ≤ tile) = false := decide_eq_false (by omega)
  obtain ⟨q, hq1, hq2⟩ : ∃ q : Int, (base : Int) ≤ 256 * q + 255 ∧ q ≤ 127 := ⟨base / 256, by omega, by omega⟩
  obtain ⟨q', hq3, hq4⟩ : ∃ q : Int, (tile : Int) ≤ 256 * q + 255 ∧ q ≤ 3 := ⟨tile / 256, by omega, by omega⟩
  have HV := Lib.hid hv.vram
  clear hb ht hv
  go_enter Try.func25, Try.ntmps25
  go_wp2
  go_loop [13, 51] (fun c i => ∃ k : Nat, k ≤ 4 ∧ i = .int .i64 k ∧ c = .int .u8 (bitsTo vr base tile 8 ix iy k)) (fun _ i => 4 - (intOf i).toNat)
  case atStart => exact ⟨0, by omega, rfl, rfl⟩
  case round =>
    clear d1 d2 d3 d4
    obtain ⟨k, hk, rfl, rfl⟩ := hrel
    by_cases hlt : k < 4
    · have ha' : w.cell? ⟨bv, (base + 32 * tile + 8 * k + iy) % 32768, none⟩ = some (.int .u16 (bitW vr base tile 8 iy k)) := HV.out _ (by omega)
      have t1 : decide ((k : Int) < 4) = true := decide_eq_true (by omega)
      have i1 : (0 : Int) ≤ ((base : Int) + 32 * (tile : Int) + 8 * (k : Int) + (iy : Int)) % 32768 := by omega
      have i2 : ((base : Int) + 32 * (tile : Int) + 8 * (k : Int) + (iy : Int)) % 32768 < 32768 := by omega
      have hst := bitsTo_bd vr base tile 8 ix iy k
      have hor := Lib.hid (or_step (bitsTo vr base tile 8 ix iy k) (bitW vr base tile 8 iy k) ix k (by omega) hx hst.1 hst.2)
      clear hst
      go_wp2
      go_round
      case rel => exact ⟨k + 1, by omega, by go_num, by rw [hor.out]; rfl⟩
      case measure => simp [intOf]; omega
    · obtain rfl : k = 4 := by omega
      go_wp2
      go_ret
      exact ⟨rfl, rfl⟩
end Go.Proofs.Ytoaecfaackkicaa
