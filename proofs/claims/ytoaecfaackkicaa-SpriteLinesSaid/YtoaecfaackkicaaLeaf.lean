/- The walks of the sprites' leaf functions, the program's: each returns what the plain functions say; nothing that was there is written. -/
import Derived.Test.YtoaecfaackkicaaRows
import Derived.Test.YtoaecfaackkicaaSpec
namespace Go.Proofs.Ytoaecfaackkicaa
open Go Go.RowKit

/-- The picture unit's memories lie at block b. -/
structure VidAt (w : World) (b : Nat) (vr oa cg : Nat → Int) : Prop where
  vram : ∀ i, i < 32768 → w.cell? ⟨b, i, none⟩ = some (.int .u16 (vr i))
  oam : ∀ i, i < 544 → w.cell? ⟨b, 32768 + i, none⟩ = some (.int .u8 (oa i))
  cg : ∀ i, i < 256 → w.cell? ⟨b, 33312 + i, none⟩ = some (.int .u16 (cg i))
  vrB : ∀ i, 0 ≤ vr i ∧ vr i ≤ 65535
  oamB : ∀ i, 0 ≤ oa i ∧ oa i ≤ 255
theorem VidAt.lt {w : World} {b : Nat} {vr oa cg : Nat → Int} (h : VidAt w b vr oa cg) : b < w.heap.size := block_lt_of_cell (h.vram 0 (by decide))
theorem VidAt.below {w w' : World} {b : Nat} {vr oa cg : Nat → Int} (h : VidAt w b vr oa cg) {B : Nat} (hb : Below B w w') (hB : b < B) : VidAt w' b vr oa cg :=
  ⟨fun i hi => (hb.cell (p := ⟨b, i, none⟩) hB).trans (h.vram i hi), fun i hi => (hb.cell (p := ⟨b, _, none⟩) hB).trans (h.oam i hi), fun i hi => (hb.cell (p := ⟨b, _, none⟩) hB).trans (h.cg i hi), h.vrB, h.oamB⟩

set_option maxHeartbeats 400000 in
theorem size_any (a : Int) (b : Bool) (h0 : 0 ≤ a) (h1 : a ≤ 7) (w : World) :
    Calls Try.prog 24 #[.int .u8 a, .bool b] w fun e w' => e = .returned (.tuple #[.int .i64 (szOf a b).1, .int .i64 (szOf a b).2]) ∧ ∃ n, w' = w.drewN n := by
  have : a = 0 ∨ a = 1 ∨ a = 2 ∨ a = 3 ∨ a = 4 ∨ a = 5 ∨ a = 6 ∨ a = 7 := by omega
  rcases this with rfl | rfl | rfl | rfl | rfl | rfl | rfl | rfl <;> cases b
  all_goals
    go_enter Try.func24, Try.ntmps24
    go_wp2
    go_quiet (fail)
    go_wp2
    go_ret2
    exact ⟨rfl, _, rfl⟩

set_option maxHeartbeats 400000 in
theorem row_any (p : Sp) (y : Int) (h0 : 0 ≤ p.y) (h1 : p.y ≤ 255) (w : World) :
    Calls Try.prog 14 #[p.v, .int .i64 y] w fun e w' => e = .returned (.tuple #[.int .i64 (rowOf p y).1, .bool (rowOf p y).2]) ∧ Below w.heap.size w w' := by
  obtain ⟨x, py, pw, ph, tile, pal, prio, sec, fx, fy⟩ := p
  simp only [Sp.v, rowOf] at *
  by_cases hy : y < 0 ∨ 255 < y
  · rw [if_pos hy]
    have hb : (decide (y < 0) || decide (256 ≤ y)) = true := by simp; omega
    go_enter Try.func14, Try.ntmps14
    go_wp2
    all_goals go_ret2
    all_goals exact ⟨rfl, (Below.refl _ _).alloc (Nat.le_refl _) _⟩
  · rw [if_neg hy]
    have hy0 : 0 ≤ y := by omega
    have hy1 : y ≤ 255 := by omega
    clear hy
    by_cases hh : ph ≤ (y - py) % 256
    · rw [if_pos hh]
      go_enter Try.func14, Try.ntmps14
      go_wp2
      all_goals go_ret2
      all_goals exact ⟨rfl, (Below.refl _ _).alloc (Nat.le_refl _) _⟩
    · rw [if_neg hh]
      go_enter Try.func14, Try.ntmps14
      go_wp2
      all_goals go_ret2
      all_goals exact ⟨rfl, (Below.refl _ _).alloc (Nat.le_refl _) _⟩

set_option maxRecDepth 100000 in
set_option maxHeartbeats 400000 in
theorem of_nat (bv bs so k : Nat) (vr oa cg : Nat → Int) (r1 : Int) (hk : k < 128) (w : World) (hv : VidAt w bv vr oa cg) (hr : w.cell? ⟨bs, so + 1, none⟩ = some (.int .u8 r1)) (hr0 : 0 ≤ r1) (hr1 : r1 ≤ 255) :
    Calls Try.prog 13 #[.pointer (some ⟨bv, 0, none⟩), .pointer (some ⟨bs, so, none⟩), .int .i64 k] w fun e w' => e = .returned (.tuple #[(spOf oa r1 k).v, .bool true]) ∧ Below w.heap.size w w' := by
  have hh := hv.oam (512 + k / 4) (by omega)
  have h0 := hv.oam (4 * k) (by omega)
  have h1 : w.cell? ⟨bv, 32768 + 4 * k + 1, none⟩ = some (.int .u8 (oa (4 * k + 1))) := by have := hv.oam (4 * k + 1) (by omega); rwa [← Nat.add_assoc] at this
  have h2 : w.cell? ⟨bv, 32768 + 4 * k + 2, none⟩ = some (.int .u8 (oa (4 * k + 2))) := by have := hv.oam (4 * k + 2) (by omega); rwa [← Nat.add_assoc] at this
  have h3 : w.cell? ⟨bv, 32768 + 4 * k + 3, none⟩ = some (.int .u8 (oa (4 * k + 3))) := by have := hv.oam (4 * k + 3) (by omega); rwa [← Nat.add_assoc] at this
  have b0 := hv.oamB (512 + k / 4)
  have b1 := hv.oamB (4 * k)
  have b2 := hv.oamB (4 * k + 1)
  have hsl := fun w => sliceAt_arr (P := Try.prog) Try.underlying46 (s := 1) (by kernel_rfl) bv 32768 (4 * (k : Int)) (4 * (k : Int) + 4) .i64 .i64 (by omega) (by omega) (by omega) (by omega) w
  rw [show (4 * (k : Int)).toNat = 4 * k by omega, show (4 * (k : Int) + 4).toNat = 4 * k + 4 by omega, show 4 * k + 4 - 4 * k = 4 by omega, Nat.mul_one] at hsl
  have hbv : bv < w.heap.size := hv.lt
  have hbs : bs < w.heap.size := block_lt_of_cell hr
  clear hv
  go_enter Try.func13, Try.ntmps13
  go_wp2_with (first | (go_at_call 24; refine (size_any _ _ (by omega) (by omega) _).mono ?_; rintro e w' ⟨rfl, n, rfl⟩))
  refine region_tail 34 (by kernel_rfl) (by kernel_rfl) ?_
  simp only [List.take_succ_cons, List.take_zero, List.drop_succ_cons, List.drop_zero]
  repeat still_step
  refine wpStill_nil ?_
  go_wp2
  refine bodyPost_ret (v := .tuple #[(spOf oa r1 k).v, .bool true]) (by simp [results, Try.results13, go_sem, Sp.v, spOf, hiOf]) rfl ⟨rfl, ?_⟩
  exact below_drewN' ((Below.refl _ _).alloc (Nat.le_refl _) _) _

theorem of_any (bv bs so : Nat) (k : Int) (vr oa cg : Nat → Int) (r1 : Int) (hk0 : 0 ≤ k) (hk : k < 128) (w : World) (hv : VidAt w bv vr oa cg) (hr : w.cell? ⟨bs, so + 1, none⟩ = some (.int .u8 r1)) (hr0 : 0 ≤ r1) (hr1 : r1 ≤ 255) :
    Calls Try.prog 13 #[.pointer (some ⟨bv, 0, none⟩), .pointer (some ⟨bs, so, none⟩), .int .i64 k] w fun e w' => e = .returned (.tuple #[(spOf oa r1 k.toNat).v, .bool true]) ∧ Below w.heap.size w w' := by
  obtain ⟨n, rfl⟩ := Int.eq_ofNat_of_zero_le hk0
  exact of_nat bv bs so n vr oa cg r1 (by omega) w hv hr hr0 hr1
end Go.Proofs.Ytoaecfaackkicaa
