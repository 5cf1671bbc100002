/- What a sprite is, its row on a line, its dots' numbers: plain functions on numbers. No program in sight. -/
import Derived.Test.YtoaecfaackkicaaBase
namespace Go.Proofs.Ytoaecfaackkicaa
open Go Go.RowKit

structure Sp where
  (x y w h tile pal prio : Int)
  (sec fx fy : Bool)
def Sp.cs (p : Sp) : List Value := [.int .i64 p.x, .int .i64 p.y, .int .i64 p.w, .int .i64 p.h, .int .u8 p.tile, .int .u8 p.pal, .int .u8 p.prio, .bool p.sec, .bool p.fx, .bool p.fy]
def Sp.v (p : Sp) : Value := .agg #[.int .i64 p.x, .int .i64 p.y, .int .i64 p.w, .int .i64 p.h, .int .u8 p.tile, .int .u8 p.pal, .int .u8 p.prio, .bool p.sec, .bool p.fx, .bool p.fy]

def szOf (a : Int) (b : Bool) : Int × Int :=
  if a = 0 then (if b then (16, 16) else (8, 8)) else if a = 1 then (if b then (32, 32) else (8, 8)) else
  if a = 2 then (if b then (64, 64) else (8, 8)) else if a = 3 then (if b then (32, 32) else (16, 16)) else
  if a = 4 then (if b then (64, 64) else (16, 16)) else if a = 5 then (if b then (64, 64) else (32, 32)) else
  if a = 6 then (if b then (32, 64) else (16, 32)) else (if b then (32, 32) else (16, 32))

def hiOf (oa : Nat → Int) (k : Nat) : Int := oa (512 + k / 4) / 2 ^ (2 * (k % 4))
def spOf (oa : Nat → Int) (r1 : Int) (k : Nat) : Sp :=
  let s := szOf (r1 / 32) (hiOf oa k / 2 % 2 * 2 != 0)
  let a := oa (4 * k + 3)
  { x := oa (4 * k) - hiOf oa k % 2 * 256, y := oa (4 * k + 1), w := s.1, h := s.2, tile := oa (4 * k + 2), pal := a / 2 % 8, prio := a / 16 % 4, sec := a % 2 != 0, fx := a / 64 % 2 * 64 != 0, fy := a / 128 % 2 * 128 != 0 }

def rowOf (p : Sp) (y : Int) : Int × Bool :=
  if y < 0 ∨ 255 < y then (0, false) else
  if p.h ≤ (y - p.y) % 256 then (0, false) else ((y - p.y) % 256, true)

/-- Two bits of a word: those of a dot. -/
def bit2 (w : Int) (ix : Nat) : Int := w / 2 ^ (7 - ix) % 2 + w / 2 ^ (15 - ix) % 2 * 2
def bitW (vr : Nat → Int) (base tile depth iy k : Nat) : Int := vr ((base + 4 * depth * tile + 8 * k + iy) % 32768)
def bitsTo (vr : Nat → Int) (base tile depth ix iy : Nat) : Nat → Int
  | 0 => 0
  | n + 1 => bitsTo vr base tile depth ix iy n + bit2 (bitW vr base tile depth iy n) ix * 4 ^ n
def bitsOf (vr : Nat → Int) (base tile depth ix iy : Nat) : Int := bitsTo vr base tile depth ix iy (depth / 2)

theorem bit2_bd (w : Int) (ix : Nat) : 0 ≤ bit2 w ix ∧ bit2 w ix ≤ 3 := by unfold bit2; omega
theorem bitsTo_bd (vr : Nat → Int) (base tile depth ix iy n : Nat) : 0 ≤ bitsTo vr base tile depth ix iy n ∧ bitsTo vr base tile depth ix iy n < 4 ^ n := by
  induction n with
  | zero => simp [bitsTo]
  | succ n ih =>
    have := bit2_bd (bitW vr base tile depth iy n) ix
    simp only [bitsTo]
    have h4 : (0 : Int) < 4 ^ n := Int.pow_pos (by decide)
    have h5 : (4 : Int) ^ (n + 1) = 4 * 4 ^ n := by rw [Int.pow_succ]; omega
    have h6 : bit2 (bitW vr base tile depth iy n) ix * 4 ^ n ≤ 3 * 4 ^ n := Int.mul_le_mul_of_nonneg_right this.2 (by omega)
    have h7 : 0 ≤ bit2 (bitW vr base tile depth iy n) ix * 4 ^ n := Int.mul_nonneg this.1 (by omega)
    omega

/-- The dot's number of a sprite (within its bounds). -/
def numOf (vr : Nat → Int) (r1 : Int) (p : Sp) (ix iy : Int) : Int :=
  if 64 < p.w ∨ 64 < p.h ∨ p.x < -256 ∨ 256 ≤ p.x ∨ ix < 0 ∨ p.w ≤ ix ∨ iy < 0 ∨ p.h ≤ iy then 0 else
  let ix := if p.fx then p.w - 1 - ix else ix
  let iy := if p.fy then p.h - 1 - iy else iy
  let t := (p.tile + iy / 8 * 16) / 16 % 16 * 16 + (p.tile + ix / 8) % 16
  let base := if p.sec then r1 % 8 * 8192 + (4096 + r1 / 8 % 4 * 4096) else r1 % 8 * 8192
  bitsOf vr (base % 32768).toNat t.toNat 4 (ix % 8).toNat (iy % 8).toNat
end Go.Proofs.Ytoaecfaackkicaa
