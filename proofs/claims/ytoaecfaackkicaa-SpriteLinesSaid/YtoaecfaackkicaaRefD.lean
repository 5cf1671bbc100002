/- The walk of the document's number of a sprite's dot. -/
import Derived.Test.YtoaecfaackkicaaRefC
import Derived.Test.YtoaecfaackkicaaLeafC
namespace Go.Proofs.Ytoaecfaackkicaa
open Go Go.RowKit

theorem bits_congr (vr : Nat → Int) {a a' b b' c c' d d' : Int} (h1 : a = a') (h2 : b = b') (h3 : c = c') (h4 : d = d') : bitsOf vr a.toNat b.toNat 4 c.toNat d.toNat = bitsOf vr a'.toNat b'.toNat 4 c'.toNat d'.toNat := by rw [h1, h2, h3, h4]

theorem rbits_4i (bv : Nat) (base tile ix iy : Int) (vr oa cg : Nat → Int) (b0 : 0 ≤ base) (b1 : base < 32768) (t0 : 0 ≤ tile) (t1 : tile < 1024) (x0 : 0 ≤ ix) (x1 : ix < 8) (y0 : 0 ≤ iy) (y1 : iy < 8) (w : World) (hv : VidAt w bv vr oa cg) :
    Calls Try.prog 32 #[.pointer (some ⟨bv, 0, none⟩), .int .i64 base, .int .i64 tile, .int .i64 4, .int .i64 ix, .int .i64 iy] w fun e w' => e = .returned (.int .u8 (bitsOf vr base.toNat tile.toNat 4 ix.toNat iy.toNat)) ∧ w' = w := by
  obtain ⟨b, rfl⟩ := Int.eq_ofNat_of_zero_le b0
  obtain ⟨t, rfl⟩ := Int.eq_ofNat_of_zero_le t0
  obtain ⟨x, rfl⟩ := Int.eq_ofNat_of_zero_le x0
  obtain ⟨y, rfl⟩ := Int.eq_ofNat_of_zero_le y0
  exact rbits_4 bv b t x y vr oa cg (by omega) (by omega) (by omega) (by omega) w hv

set_option maxRecDepth 100000 in
set_option maxHeartbeats 2000000 in
theorem rnumber_in (bv bs so : Nat) (p : Sp) (ix iy r1 : Int) (vr oa cg : Nat → Int) (hp : SpOk p) (y0 : 0 ≤ iy) (y1 : iy < p.h) (z0 : 0 ≤ ix) (z1 : ix < p.w) (w : World) (hv : VidAt w bv vr oa cg) (hr : w.cell? ⟨bs, so + 1, none⟩ = some (.int .u8 r1)) (hr0 : 0 ≤ r1) (hr1 : r1 ≤ 255) :
    Calls Try.prog 29 #[.pointer (some ⟨bv, 0, none⟩), .pointer (some ⟨bs, so, none⟩), p.v, .int .i64 ix, .int .i64 iy] w fun e w' => e = .returned (.int .u8 (numOf vr r1 p ix iy)) ∧ Below w.heap.size w w' := by
  obtain ⟨px, py, pw, ph, tile, pal, prio, sec, fx, fy⟩ := p
  obtain ⟨w0, w1, h0, h1, x0, x1, -, -, t0, t1⟩ := hp
  simp only [Sp.v, numOf] at *
  rw [if_neg (by omega)]
  have hbv := hv.lt
  have hbs : bs < w.heap.size := block_lt_of_cell hr
  have HV := Lib.hid hv
  clear hv
  have e1 : decide (64 < pw) = false := decide_eq_false (by omega)
  have e2 : decide (64 < ph) = false := decide_eq_false (by omega)
  have e3 : decide (px < -256) = false := decide_eq_false (by omega)
  have e4 : decide (255 < px) = false := decide_eq_false (by omega)
  have e5 : decide (ix < 0) = false := decide_eq_false (by omega)
  have e6 : decide (pw ≤ ix) = false := decide_eq_false (by omega)
  have e7 : decide (iy < 0) = false := decide_eq_false (by omega)
  have e8 : decide (ph ≤ iy) = false := decide_eq_false (by omega)
  cases fx <;> cases fy <;> cases sec
  · go_enter Try.func29, Try.ntmps29
    go_wp2_with (go_at_call 32; refine (rbits_4i bv _ _ _ _ vr oa cg (by omega) (by omega) (by omega) (by omega) (by omega) (by omega) (by omega) (by omega) _ (HV.out.below ((Below.refl _ _).alloc (Nat.le_refl _) _) hbv)).mono ?_; rintro e w' ⟨rfl, rfl⟩)
    go_ret
    exact ⟨ret_i (bits_congr vr (by omega) (by omega) (by omega) (by omega)), (Below.refl _ _).alloc (Nat.le_refl _) _⟩
  · go_enter Try.func29, Try.ntmps29
    go_wp2_with (go_at_call 32; refine (rbits_4i bv _ _ _ _ vr oa cg (by omega) (by omega) (by omega) (by omega) (by omega) (by omega) (by omega) (by omega) _ (HV.out.below ((Below.refl _ _).alloc (Nat.le_refl _) _) hbv)).mono ?_; rintro e w' ⟨rfl, rfl⟩)
    go_ret
    exact ⟨ret_i (bits_congr vr (by omega) (by omega) (by omega) (by omega)), (Below.refl _ _).alloc (Nat.le_refl _) _⟩
  · go_enter Try.func29, Try.ntmps29
    go_wp2_with (go_at_call 32; refine (rbits_4i bv _ _ _ _ vr oa cg (by omega) (by omega) (by omega) (by omega) (by omega) (by omega) (by omega) (by omega) _ (HV.out.below ((Below.refl _ _).alloc (Nat.le_refl _) _) hbv)).mono ?_; rintro e w' ⟨rfl, rfl⟩)
    go_ret
    exact ⟨ret_i (bits_congr vr (by omega) (by omega) (by omega) (by omega)), (Below.refl _ _).alloc (Nat.le_refl _) _⟩
  · go_enter Try.func29, Try.ntmps29
    go_wp2_with (go_at_call 32; refine (rbits_4i bv _ _ _ _ vr oa cg (by omega) (by omega) (by omega) (by omega) (by omega) (by omega) (by omega) (by omega) _ (HV.out.below ((Below.refl _ _).alloc (Nat.le_refl _) _) hbv)).mono ?_; rintro e w' ⟨rfl, rfl⟩)
    go_ret
    exact ⟨ret_i (bits_congr vr (by omega) (by omega) (by omega) (by omega)), (Below.refl _ _).alloc (Nat.le_refl _) _⟩
  · go_enter Try.func29, Try.ntmps29
    go_wp2_with (go_at_call 32; refine (rbits_4i bv _ _ _ _ vr oa cg (by omega) (by omega) (by omega) (by omega) (by omega) (by omega) (by omega) (by omega) _ (HV.out.below ((Below.refl _ _).alloc (Nat.le_refl _) _) hbv)).mono ?_; rintro e w' ⟨rfl, rfl⟩)
    go_ret
    exact ⟨ret_i (bits_congr vr (by omega) (by omega) (by omega) (by omega)), (Below.refl _ _).alloc (Nat.le_refl _) _⟩
  · go_enter Try.func29, Try.ntmps29
    go_wp2_with (go_at_call 32; refine (rbits_4i bv _ _ _ _ vr oa cg (by omega) (by omega) (by omega) (by omega) (by omega) (by omega) (by omega) (by omega) _ (HV.out.below ((Below.refl _ _).alloc (Nat.le_refl _) _) hbv)).mono ?_; rintro e w' ⟨rfl, rfl⟩)
    go_ret
    exact ⟨ret_i (bits_congr vr (by omega) (by omega) (by omega) (by omega)), (Below.refl _ _).alloc (Nat.le_refl _) _⟩
  · go_enter Try.func29, Try.ntmps29
    go_wp2_with (go_at_call 32; refine (rbits_4i bv _ _ _ _ vr oa cg (by omega) (by omega) (by omega) (by omega) (by omega) (by omega) (by omega) (by omega) _ (HV.out.below ((Below.refl _ _).alloc (Nat.le_refl _) _) hbv)).mono ?_; rintro e w' ⟨rfl, rfl⟩)
    go_ret
    exact ⟨ret_i (bits_congr vr (by omega) (by omega) (by omega) (by omega)), (Below.refl _ _).alloc (Nat.le_refl _) _⟩
  · go_enter Try.func29, Try.ntmps29
    go_wp2_with (go_at_call 32; refine (rbits_4i bv _ _ _ _ vr oa cg (by omega) (by omega) (by omega) (by omega) (by omega) (by omega) (by omega) (by omega) _ (HV.out.below ((Below.refl _ _).alloc (Nat.le_refl _) _) hbv)).mono ?_; rintro e w' ⟨rfl, rfl⟩)
    go_ret
    exact ⟨ret_i (bits_congr vr (by omega) (by omega) (by omega) (by omega)), (Below.refl _ _).alloc (Nat.le_refl _) _⟩
end Go.Proofs.Ytoaecfaackkicaa
