/- The walk of the document's answer for one sprite. -/
import Derived.Test.YtoaecfaackkicaaRefA
namespace Go.Proofs.Ytoaecfaackkicaa
open Go Go.RowKit

def rspOf (oa : Nat → Int) (r1 : Int) (k : Nat) : Sp :=
  let s := szOf (r1 / 32) (hiOf oa k / 2 % 2 == 1)
  let a := oa (4 * k + 3)
  { x := if 256 ≤ oa (4 * k) + hiOf oa k % 2 * 256 then oa (4 * k) + hiOf oa k % 2 * 256 - 512 else oa (4 * k) + hiOf oa k % 2 * 256, y := oa (4 * k + 1), w := s.1, h := s.2, tile := oa (4 * k + 2), pal := a / 2 % 8, prio := a / 16 % 4, sec := a % 2 == 1, fx := a / 64 % 2 == 1, fy := a / 128 == 1 }

theorem bool_eq {a b : Bool} (h : a = true ↔ b = true) : a = b := Bool.eq_iff_iff.2 h

theorem rspOf_eq (oa : Nat → Int) (r1 : Int) (k : Nat) (h : ∀ i, 0 ≤ oa i ∧ oa i ≤ 255) : rspOf oa r1 k = spOf oa r1 k := by
  unfold rspOf spOf
  have h0 := h (4 * k)
  have h3 := h (4 * k + 3)
  have e : (hiOf oa k / 2 % 2 == 1) = (hiOf oa k / 2 % 2 * 2 != 0) := bool_eq (by simp; omega)
  have e1 : (oa (4 * k + 3) % 2 == 1) = (oa (4 * k + 3) % 2 != 0) := bool_eq (by simp; omega)
  have e2 : (oa (4 * k + 3) / 64 % 2 == 1) = (oa (4 * k + 3) / 64 % 2 * 64 != 0) := bool_eq (by simp; omega)
  have e3 : (oa (4 * k + 3) / 128 == 1) = (oa (4 * k + 3) / 128 % 2 * 128 != 0) := bool_eq (by simp; omega)
  simp only [e, e1, e2, e3, Sp.mk.injEq, and_true, true_and]
  split <;> omega

set_option maxRecDepth 100000 in
set_option maxHeartbeats 1000000 in
theorem rof_nat (bv bs so k : Nat) (vr oa cg : Nat → Int) (r1 : Int) (hk : k < 128) (w : World) (hv : VidAt w bv vr oa cg) (hr : w.cell? ⟨bs, so + 1, none⟩ = some (.int .u8 r1)) (hr0 : 0 ≤ r1) (hr1 : r1 ≤ 255) :
    Calls Try.prog 27 #[.pointer (some ⟨bv, 0, none⟩), .pointer (some ⟨bs, so, none⟩), .int .i64 k] w fun e w' => e = .returned (.tuple #[(rspOf oa r1 k).v, .bool true]) ∧ Below w.heap.size w w' := by
  have hh := hv.oam (512 + k / 4) (by omega)
  have h0 := hv.oam (4 * k) (by omega)
  have h1 := hv.oam (4 * k + 1) (by omega)
  have h2 := hv.oam (4 * k + 2) (by omega)
  have h3 := hv.oam (4 * k + 3) (by omega)
  have b0 := hv.oamB (512 + k / 4)
  have b1 := hv.oamB (4 * k)
  have b2 := hv.oamB (4 * k + 1)
  have b3 := hv.oamB (4 * k + 3)
  have hbv : bv < w.heap.size := hv.lt
  have hbs : bs < w.heap.size := block_lt_of_cell hr
  have g1 : decide ((k : Int) < 0) = false := decide_eq_false (by omega)
  have g2 : decide (127 < (k : Int)) = false := decide_eq_false (by omega)
  clear hv
  have HE := Lib.hid (show hiOf oa k = oa (512 + k / 4) / 2 ^ (2 * (k % 4)) from rfl)
  obtain ⟨hi, hhi⟩ : ∃ hi, hi = hiOf oa k := ⟨_, rfl⟩
  have HH := Lib.hid hhi
  clear hhi
  go_enter Try.func27, Try.ntmps27
  go_wp2
  go_loop [8, 9] (fun c i => ∃ j : Nat, j ≤ k % 4 ∧ i = .int .i64 j ∧ ∃ y : Int, 0 ≤ y ∧ y ≤ 255 ∧ y = oa (512 + k / 4) / 2 ^ (2 * j) ∧ c = .int .i64 y) (fun _ i => k % 4 - (intOf i).toNat)
  case atStart => exact ⟨0, by omega, rfl, _, b0.1, b0.2, by simp, rfl⟩
  case round =>
    obtain ⟨j, hj, rfl, y, hy0, hy1, hy, rfl⟩ := hrel
    have HY := Lib.hid hy
    clear hy
    by_cases hlt : j < k % 4
    · have t1 : decide ((j : Int) < (k : Int) % 4) = true := decide_eq_true (by omega)
      go_wp2
      go_round
      case rel => exact ⟨j + 1, by omega, by go_num, y / 4, by omega, by omega, by rw [HY.out, Int.ediv_ediv_of_nonneg (Int.le_of_lt (Int.pow_pos (by decide))), show 2 * (j + 1) = 2 * j + 2 by omega, Int.pow_add]; rfl, rfl⟩
      case measure => simp [intOf]; omega
    · have ej : j = k % 4 := by omega
      have t1 : decide ((j : Int) < (k : Int) % 4) = false := decide_eq_false (by omega)
      have ey : y = hi := by rw [HY.out, HH.out, HE.out, ej]
      subst ey
      clear ej hlt HY
      go_wp2
      have x0 := IntWalk.i64_in (4 * (k : Int)) (by omega)
      have x1 := IntWalk.i64_in (4 * (k : Int) + 1) (by omega)
      have x2 := IntWalk.i64_in (4 * (k : Int) + 2) (by omega)
      have y0 : (0 : Int) ≤ 4 * (k : Int) := by omega
      have y1 : 4 * (k : Int) < 544 := by omega
      have y2 : (0 : Int) ≤ 4 * (k : Int) + 1 := by omega
      have y3 : 4 * (k : Int) + 1 < 544 := by omega
      have y4 : (0 : Int) ≤ 4 * (k : Int) + 2 := by omega
      have y5 : 4 * (k : Int) + 2 < 544 := by omega
      have n0 : (4 * (k : Int)).toNat = 4 * k := by omega
      have n1 : (4 * (k : Int) + 1).toNat = 4 * k + 1 := by omega
      have n2 : (4 * (k : Int) + 2).toNat = 4 * k + 2 := by omega
      have x3 := IntWalk.i64_in (oa (4 * k)) (by omega)
      have x4 := IntWalk.i64_in (y % 2 * 256) (by omega)
      have x5 := IntWalk.rem_in y 2 (by omega)
      have x6 := IntWalk.i64_in (oa (4 * k) + y % 2 * 256) (by omega)
      have x7 := IntWalk.i64_in (oa (4 * k + 1)) (by omega)
      go_region_held3 (fun w' => w'.cell? ⟨bv, 32768 + 4 * k, none⟩ = some (.int .u8 (oa (4 * k))) ∧ w'.cell? ⟨bv, 32768 + (4 * k + 1), none⟩ = some (.int .u8 (oa (4 * k + 1))) ∧ w'.cell? ⟨bv, 32768 + (4 * k + 2), none⟩ = some (.int .u8 (oa (4 * k + 2)))) (go_keep) ((fail))
      by_cases hx : 256 ≤ oa (4 * k) + y % 2 * 256
      all_goals
        first
          | have c1 : decide (256 ≤ oa (4 * k) + y % 2 * 256) = true := decide_eq_true hx
          | have c1 : decide (256 ≤ oa (4 * k) + y % 2 * 256) = false := decide_eq_false hx
        have HX := Lib.hid hx
        clear hx
        clear x0 x1 x2 x3 x4 x5 x6 x7 y0 y1 y2 y3 y4 y5 n0 n1 n2 h0 h1 h2 h3 hh b0
        go_wp2_with (go_at_call 31; refine (rsize_any _ _ (by omega) (by omega) _).mono ?_; rintro e w' ⟨rfl, n, rfl⟩)
        refine bodyPost_ret (v := .tuple #[(rspOf oa r1 k).v, .bool true]) ?_ rfl ⟨rfl, ?_⟩
        · rw [HH.out] at HX
          have HX' := HX.out
          simp [results, Try.results27, go_sem, Sp.v, rspOf, HH.out, HX']
          try (intro h; omega)
        · exact below_drewN' (((Below.refl _ _).alloc (Nat.le_refl _) _).alloc (by simp) _) _

theorem rof_any (bv bs so : Nat) (k : Int) (vr oa cg : Nat → Int) (r1 : Int) (hk0 : 0 ≤ k) (hk : k < 128) (w : World) (hv : VidAt w bv vr oa cg) (hr : w.cell? ⟨bs, so + 1, none⟩ = some (.int .u8 r1)) (hr0 : 0 ≤ r1) (hr1 : r1 ≤ 255) :
    Calls Try.prog 27 #[.pointer (some ⟨bv, 0, none⟩), .pointer (some ⟨bs, so, none⟩), .int .i64 k] w fun e w' => e = .returned (.tuple #[(spOf oa r1 k.toNat).v, .bool true]) ∧ Below w.heap.size w w' := by
  obtain ⟨n, rfl⟩ := Int.eq_ofNat_of_zero_le hk0
  have := rof_nat bv bs so n vr oa cg r1 (by omega) w hv hr hr0 hr1
  rwa [rspOf_eq oa r1 n hv.oamB] at this
end Go.Proofs.Ytoaecfaackkicaa
