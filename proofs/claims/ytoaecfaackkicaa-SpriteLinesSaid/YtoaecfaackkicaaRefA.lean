/- The walks of the document's leaf functions of the sprites: they return what the program's return. -/
import Derived.Test.YtoaecfaackkicaaLeaf
namespace Go.Proofs.Ytoaecfaackkicaa
open Go Go.RowKit

theorem w64_byte (b : UInt8) : wrap64 (b.toNat : Int) = (b.toNat : Int) := IntWalk.wrap64_in _ (by have := b.toNat_lt; omega)

set_option maxRecDepth 100000 in
set_option maxHeartbeats 400000 in
theorem rsize_any (a : Int) (b : Bool) (h0 : 0 ≤ a) (h1 : a ≤ 7) (w : World) :
    Calls Try.prog 31 #[.int .u8 a, .bool b] w fun e w' => e = .returned (.tuple #[.int .i64 (szOf a b).1, .int .i64 (szOf a b).2]) ∧ ∃ n, w' = w.drewN n := by
  have H0 := h0
  clear h0
  have : a = 0 ∨ a = 1 ∨ a = 2 ∨ a = 3 ∨ a = 4 ∨ a = 5 ∨ a = 6 ∨ a = 7 := by omega
  rcases this with rfl | rfl | rfl | rfl | rfl | rfl | rfl | rfl <;> cases b
  all_goals
    go_enter Try.func31, Try.ntmps31
    go_wp2
    go_ret2
    exact ⟨ret_ii (by first | (rw [w64_byte]; rfl) | rfl) (by first | (rw [w64_byte]; rfl) | rfl), 0, rfl⟩

set_option maxHeartbeats 400000 in
theorem rrow_any (p : Sp) (y : Int) (h0 : 0 ≤ p.y) (h1 : p.y ≤ 255) (w : World) :
    Calls Try.prog 28 #[p.v, .int .i64 y] w fun e w' => e = .returned (.tuple #[.int .i64 (rowOf p y).1, .bool (rowOf p y).2]) ∧ Below w.heap.size w w' := by
  obtain ⟨x, py, pw, ph, tile, pal, prio, sec, fx, fy⟩ := p
  simp only [Sp.v, rowOf] at *
  by_cases hy : y < 0 ∨ 255 < y
  · rw [if_pos hy]
    have hb : (decide (y < 0) || decide (255 < y)) = true := by simp; omega
    go_enter Try.func28, Try.ntmps28
    go_wp2
    all_goals go_ret2
    all_goals exact ⟨rfl, (Below.refl _ _).alloc (Nat.le_refl _) _⟩
  · rw [if_neg hy]
    have e1 : decide (y < 0) = false := decide_eq_false (by omega)
    have e2 : decide (255 < y) = false := decide_eq_false (by omega)
    have hy0 : 0 ≤ y := by omega
    have hy1 : y ≤ 255 := by omega
    clear hy
    by_cases hc : y < py
    · obtain ⟨d, hd⟩ : ∃ d, d = (y - py) % 256 := ⟨_, rfl⟩
      have t1 : (y - py).tmod 256 = y - py := tmod_small _ _ (by omega) (by omega)
      have hd2 : y - py + 256 = d := by omega
      rw [← hd]
      clear hd
      have e3 : decide (y - py < 0) = true := decide_eq_true (by omega)
      by_cases hh : ph ≤ d
      · rw [if_pos hh]
        have e4 : decide (ph ≤ d) = true := decide_eq_true hh
        go_enter Try.func28, Try.ntmps28
        go_wp2
        all_goals go_ret2
        all_goals exact ⟨rfl, (Below.refl _ _).alloc (Nat.le_refl _) _⟩
      · rw [if_neg hh]
        have e4 : decide (ph ≤ d) = false := decide_eq_false hh
        go_enter Try.func28, Try.ntmps28
        go_wp2
        all_goals go_ret2
        all_goals exact ⟨rfl, (Below.refl _ _).alloc (Nat.le_refl _) _⟩
    · rw [show (y - py) % 256 = y - py by omega]
      have t1 : (y - py).tmod 256 = y - py := tmod_small _ _ (by omega) (by omega)
      have e3 : decide (y - py < 0) = false := decide_eq_false (by omega)
      by_cases hh : ph ≤ y - py
      · rw [if_pos hh]
        have e4 : decide (ph ≤ y - py) = true := decide_eq_true hh
        go_enter Try.func28, Try.ntmps28
        go_wp2
        all_goals go_ret2
        all_goals exact ⟨rfl, (Below.refl _ _).alloc (Nat.le_refl _) _⟩
      · rw [if_neg hh]
        have e4 : decide (ph ≤ y - py) = false := decide_eq_false hh
        go_enter Try.func28, Try.ntmps28
        go_wp2
        all_goals go_ret2
        all_goals exact ⟨rfl, (Below.refl _ _).alloc (Nat.le_refl _) _⟩

theorem tdiv_pow (x : Int) (k : Nat) (h : 0 ≤ x) : 0 ≤ x / 2 ^ k := Int.ediv_nonneg h (Int.le_of_lt (Int.pow_pos (by decide)))

set_option maxRecDepth 100000 in
set_option maxHeartbeats 400000 in
theorem rbit_any (x : Int) (n : Nat) (h0 : 0 ≤ x) (h1 : x ≤ 65535) (hn : n ≤ 100) (w : World) :
    Calls Try.prog 33 #[.int .i64 x, .int .i64 n] w fun e w' => e = .returned (.int .i64 (x / 2 ^ n % 2)) ∧ w' = w := by
  go_enter Try.func33, Try.ntmps33
  go_wp2
  go_loop [0, 5] (fun c i => ∃ k : Nat, k ≤ n ∧ i = .int .i64 k ∧ ∃ y : Int, 0 ≤ y ∧ y ≤ 65535 ∧ y = x / 2 ^ k ∧ c = .int .i64 y) (fun _ i => n - (intOf i).toNat)
  case atStart => exact ⟨0, by omega, rfl, x, h0, h1, by simp, rfl⟩
  case round =>
    obtain ⟨k, hk, rfl, y, hy0, hy1, hy, rfl⟩ := hrel
    have HY := Lib.hid hy
    clear hy
    by_cases hlt : k < n
    · have t1 : decide ((k : Int) < n) = true := decide_eq_true (by omega)
      have t2 : decide (k < n) = true := decide_eq_true (by omega)
      go_wp2
      go_round
      case rel => exact ⟨k + 1, by omega, by go_num, y / 2, by omega, by omega, by rw [HY.out, Int.ediv_ediv_of_nonneg (Int.le_of_lt (Int.pow_pos (by decide))), Int.pow_succ], rfl⟩
      case measure => simp [intOf]; omega
    · obtain rfl : k = n := by omega
      have t1 : decide ((k : Int) < k) = false := decide_eq_false (by omega)
      go_wp2
      go_ret
      exact ⟨by rw [← HY.out]; rfl, rfl⟩
end Go.Proofs.Ytoaecfaackkicaa
