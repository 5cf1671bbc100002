/- Plain laws of Go's bit operations on the integer kinds: a mask of consecutive bits, the mask taken away, two numbers without a common bit. No program in sight. -/
import Derived.WalkKit
namespace Go.Proofs.Ytoaecfaackkicaa
open Go

theorem nat_and_range (a j d : Nat) : a &&& ((2 ^ d - 1) * 2 ^ j) = a / 2 ^ j % 2 ^ d * 2 ^ j := by
  rw [← Nat.shiftLeft_eq, ← Nat.shiftLeft_eq, ← Nat.shiftRight_eq_div_pow]
  apply Nat.eq_of_testBit_eq
  intro i
  simp only [Nat.testBit_and, Nat.testBit_shiftLeft, Nat.testBit_mod_two_pow, Nat.testBit_shiftRight, Nat.testBit_two_pow_sub_one]
  by_cases h : j ≤ i
  · have : j + (i - j) = i := by omega
    simp [h, this, Bool.and_comm]
  · simp [h]

theorem int_div_mod (x : Int) (n j d : Nat) (h : j + d ≤ n) : x % 2 ^ n / 2 ^ j % 2 ^ d = x / 2 ^ j % 2 ^ d := by
  obtain ⟨e, rfl⟩ := Nat.exists_eq_add_of_le h
  have hj : (0 : Int) < 2 ^ j := Int.pow_pos (by decide)
  have e1 : x = x % 2 ^ (j + d + e) + 2 ^ j * (2 ^ d * (2 ^ e * (x / 2 ^ (j + d + e)))) := by
    have := Int.emod_add_mul_ediv x (2 ^ (j + d + e))
    rw [Int.pow_add, Int.pow_add] at this
    rw [Int.pow_add, Int.pow_add]
    simp only [Int.mul_assoc] at this ⊢
    omega
  generalize hq : (2 ^ e * (x / 2 ^ (j + d + e))) = q at e1
  generalize x % 2 ^ (j + d + e) = r at e1 ⊢
  rw [e1, Int.add_mul_ediv_left _ _ (by omega), Int.add_mul_emod_self_left]

theorem wrap_small (k : IntKind) (v : Int) (h0 : 0 ≤ v) (h1 : v < 2 ^ (if k.signed then k.bits - 1 else k.bits)) : k.wrap v = v := by
  cases k <;> simp [IntKind.wrap, IntKind.signed, IntKind.bits] at h1 ⊢ <;> omega

/-- The mask of d bits from bit j on. -/
theorem and_range (k : IntKind) (j d : Nat) (x : Int) (h : j + d ≤ (if k.signed then k.bits - 1 else k.bits)) :
    bits .and k x ((2 ^ d - 1) * 2 ^ j) = x / 2 ^ j % 2 ^ d * 2 ^ j := by
  have hb : j + d ≤ k.bits := by split at h <;> omega
  have hn : ((2 ^ d - 1) * 2 ^ j : Nat) < 2 ^ k.bits := by
    have h1 : (2 ^ d - 1) * 2 ^ j < 2 ^ d * 2 ^ j := Nat.mul_lt_mul_of_pos_right (Nat.sub_lt (Nat.two_pow_pos d) (by decide)) (Nat.two_pow_pos j)
    have h2 : 2 ^ d * 2 ^ j ≤ 2 ^ k.bits := by rw [← Nat.pow_add]; exact Nat.pow_le_pow_right (by decide) (by omega)
    omega
  have hc : ((2 ^ d - 1) * 2 ^ j : Int) = (((2 ^ d - 1) * 2 ^ j : Nat) : Int) := by
    rw [Int.natCast_mul, Int.natCast_sub (Nat.two_pow_pos d)]; simp
  have ht : ((x % 2 ^ k.bits).toNat : Int) = x % 2 ^ k.bits := Int.toNat_of_nonneg (Int.emod_nonneg _ (by have : (0 : Int) < 2 ^ k.bits := Int.pow_pos (by decide); omega))
  have e : bits .and k x ((2 ^ d - 1) * 2 ^ j) = k.wrap (((x % 2 ^ k.bits).toNat / 2 ^ j % 2 ^ d * 2 ^ j : Nat) : Int) := by
    rw [hc]
    unfold bits
    simp only [BitVec.toNat_and, BitVec.toNat_ofInt, BitVec.ofInt_natCast, BitVec.toNat_ofNat, Nat.mod_eq_of_lt hn]
    rw [← nat_and_range]
    simp
  rw [e]
  have v : (((x % 2 ^ k.bits).toNat / 2 ^ j % 2 ^ d * 2 ^ j : Nat) : Int) = x / 2 ^ j % 2 ^ d * 2 ^ j := by
    rw [Int.natCast_mul, Int.natCast_emod, Int.natCast_ediv, ht]
    have := int_div_mod x k.bits j d hb
    simp only [Int.natCast_pow, Int.cast_ofNat_Int]
    rw [this]
  rw [v]
  apply wrap_small
  · exact Int.mul_nonneg (Int.emod_nonneg _ (by have : (0 : Int) < 2 ^ d := Int.pow_pos (by decide); omega)) (Int.le_of_lt (Int.pow_pos (by decide)))
  · have h1 : x / 2 ^ j % 2 ^ d < 2 ^ d := Int.emod_lt_of_pos _ (Int.pow_pos (by decide))
    have h2 : x / 2 ^ j % 2 ^ d * 2 ^ j < 2 ^ d * 2 ^ j := Int.mul_lt_mul_of_pos_right h1 (Int.pow_pos (by decide))
    have h3 : (2 : Int) ^ d * 2 ^ j = 2 ^ (d + j) := by rw [Int.pow_add]
    have h4 : (2 : Int) ^ (d + j) ≤ 2 ^ (if k.signed then k.bits - 1 else k.bits) := by
      have := Nat.pow_le_pow_right (n := 2) (by decide) (show d + j ≤ (if k.signed then k.bits - 1 else k.bits) by omega)
      exact_mod_cast this
    omega

theorem nat_or_join (a b j : Nat) (ha : a % 2 ^ j = 0) (hb : b < 2 ^ j) : a ||| b = a + b := by
  have hq : a = 2 ^ j * (a / 2 ^ j) := by have := Nat.div_add_mod a (2 ^ j); omega
  rw [hq, ← Nat.two_pow_add_eq_or_of_lt hb]

/-- Two numbers without a common bit, put together. -/
theorem or_join (k : IntKind) (j : Nat) (x y : Int) (hx : 0 ≤ x) (hy : 0 ≤ y) (hm : x % 2 ^ j = 0) (hl : y < 2 ^ j) (hs : x + y < 2 ^ (if k.signed then k.bits - 1 else k.bits)) :
    bits .or k x y = x + y := by
  obtain ⟨a, rfl⟩ := Int.eq_ofNat_of_zero_le hx
  obtain ⟨b, rfl⟩ := Int.eq_ofNat_of_zero_le hy
  have hp : (2 : Nat) ^ (if k.signed then k.bits - 1 else k.bits) ≤ 2 ^ k.bits := Nat.pow_le_pow_right (by decide) (by split <;> omega)
  have hs' : a + b < 2 ^ k.bits := by have : a + b < 2 ^ (if k.signed then k.bits - 1 else k.bits) := by exact_mod_cast hs
                                      omega
  have e : bits .or k (a : Int) (b : Int) = k.wrap ((a + b : Nat) : Int) := by
    unfold bits
    simp only [BitVec.toNat_or, BitVec.ofInt_natCast, BitVec.toNat_ofNat, Nat.mod_eq_of_lt (show a < 2 ^ k.bits by omega), Nat.mod_eq_of_lt (show b < 2 ^ k.bits by omega)]
    rw [nat_or_join a b j (by exact_mod_cast hm) (by exact_mod_cast hl)]
  rw [e]
  simpa using wrap_small k ((a : Int) + b) (by omega) hs

theorem nat_andNot_range (a n j d : Nat) (ha : a < 2 ^ n) (h : j + d ≤ n) : a &&& (2 ^ n - 1 - (2 ^ d - 1) * 2 ^ j) = a / 2 ^ (j + d) * 2 ^ (j + d) + a % 2 ^ j := by
  have hc : (2 ^ d - 1) * 2 ^ j < 2 ^ n := by
    have h1 : (2 ^ d - 1) * 2 ^ j < 2 ^ d * 2 ^ j := Nat.mul_lt_mul_of_pos_right (Nat.sub_lt (Nat.two_pow_pos d) (by decide)) (Nat.two_pow_pos j)
    have h2 : 2 ^ d * 2 ^ j ≤ 2 ^ n := by rw [← Nat.pow_add]; exact Nat.pow_le_pow_right (by decide) (by omega)
    omega
  have hs : 2 ^ n - 1 - (2 ^ d - 1) * 2 ^ j = 2 ^ n - ((2 ^ d - 1) * 2 ^ j + 1) := by omega
  have hr : a % 2 ^ j < 2 ^ (j + d) := Nat.lt_of_lt_of_le (Nat.mod_lt _ (Nat.two_pow_pos j)) (Nat.pow_le_pow_right (by decide) (by omega))
  apply Nat.eq_of_testBit_eq
  intro i
  rw [hs, Nat.mul_comm (a / 2 ^ (j + d)), Nat.testBit_two_pow_mul_add _ hr, Nat.testBit_and, Nat.testBit_two_pow_sub_succ hc, ← Nat.shiftLeft_eq, Nat.testBit_shiftLeft, Nat.testBit_two_pow_sub_one, ← Nat.shiftRight_eq_div_pow, Nat.testBit_shiftRight, Nat.testBit_mod_two_pow]
  by_cases h1 : i < j
  · simp [h1, show i < j + d by omega, show i < n by omega, show ¬ j ≤ i by omega]
  · by_cases h2 : i < j + d
    · simp [h1, h2, show j ≤ i by omega, show i - j < d by omega]
    · have h3 : j + d + (i - (j + d)) = i := by omega
      simp only [h2, if_false, h3]
      by_cases h4 : i < n
      · simp [h4, show ¬ i - j < d by omega]
      · have : a.testBit i = false := Nat.testBit_lt_two_pow (Nat.lt_of_lt_of_le ha (Nat.pow_le_pow_right (by decide) (by omega)))
        simp [this]

/-- d bits from bit j on are taken away. -/
theorem andNot_range (k : IntKind) (j d : Nat) (x : Int) (h : j + d ≤ k.bits) (hx : 0 ≤ x) (hl : x < 2 ^ (if k.signed then k.bits - 1 else k.bits)) :
    bits .andNot k x ((2 ^ d - 1) * 2 ^ j) = x / 2 ^ (j + d) * 2 ^ (j + d) + x % 2 ^ j := by
  obtain ⟨a, rfl⟩ := Int.eq_ofNat_of_zero_le hx
  have hp : (2 : Nat) ^ (if k.signed then k.bits - 1 else k.bits) ≤ 2 ^ k.bits := Nat.pow_le_pow_right (by decide) (by split <;> omega)
  have hl' : a < 2 ^ (if k.signed then k.bits - 1 else k.bits) := by exact_mod_cast hl
  have ha : a < 2 ^ k.bits := by omega
  have hn : ((2 ^ d - 1) * 2 ^ j : Nat) < 2 ^ k.bits := by
    have h1 : (2 ^ d - 1) * 2 ^ j < 2 ^ d * 2 ^ j := Nat.mul_lt_mul_of_pos_right (Nat.sub_lt (Nat.two_pow_pos d) (by decide)) (Nat.two_pow_pos j)
    have h2 : 2 ^ d * 2 ^ j ≤ 2 ^ k.bits := by rw [← Nat.pow_add]; exact Nat.pow_le_pow_right (by decide) (by omega)
    omega
  have hc : ((2 ^ d - 1) * 2 ^ j : Int) = (((2 ^ d - 1) * 2 ^ j : Nat) : Int) := by
    rw [Int.natCast_mul, Int.natCast_sub (Nat.two_pow_pos d)]; simp
  have e : bits .andNot k (a : Int) ((2 ^ d - 1) * 2 ^ j) = k.wrap ((a / 2 ^ (j + d) * 2 ^ (j + d) + a % 2 ^ j : Nat) : Int) := by
    rw [hc]
    unfold bits
    simp only [BitVec.toNat_and, BitVec.toNat_not, BitVec.ofInt_natCast, BitVec.toNat_ofNat, Nat.mod_eq_of_lt hn, Nat.mod_eq_of_lt ha]
    rw [nat_andNot_range a k.bits j d ha h]
  have hle : a / 2 ^ (j + d) * 2 ^ (j + d) + a % 2 ^ j ≤ a := by
    have h1 := Nat.div_add_mod a (2 ^ (j + d))
    have h2 : a % 2 ^ j ≤ a % 2 ^ (j + d) := by
      rw [← Nat.mod_mod_of_dvd a (Nat.pow_dvd_pow 2 (show j ≤ j + d by omega))]
      exact Nat.mod_le _ _
    have h3 := Nat.mul_comm (a / 2 ^ (j + d)) (2 ^ (j + d))
    omega
  rw [e]
  have h5 : (a / 2 ^ (j + d) * 2 ^ (j + d) + a % 2 ^ j : Nat) < 2 ^ (if k.signed then k.bits - 1 else k.bits) := by omega
  rw [wrap_small k ((a / 2 ^ (j + d) * 2 ^ (j + d) + a % 2 ^ j : Nat) : Int) (by omega) (by exact_mod_cast h5)]
  simp
@[go_sem] theorem and_u8_1 (x : Int) : bits .and .u8 x 1 = x % 2 := by simpa using and_range .u8 0 1 x (by decide)
@[go_sem] theorem and_u8_3 (x : Int) : bits .and .u8 x 3 = x % 4 := by simpa using and_range .u8 0 2 x (by decide)
@[go_sem] theorem and_u8_7 (x : Int) : bits .and .u8 x 7 = x % 8 := by simpa using and_range .u8 0 3 x (by decide)
@[go_sem] theorem and_u8_15 (x : Int) : bits .and .u8 x 15 = x % 16 := by simpa using and_range .u8 0 4 x (by decide)
@[go_sem] theorem and_u8_31 (x : Int) : bits .and .u8 x 31 = x % 32 := by simpa using and_range .u8 0 5 x (by decide)
@[go_sem] theorem and_u8_63 (x : Int) : bits .and .u8 x 63 = x % 64 := by simpa using and_range .u8 0 6 x (by decide)
@[go_sem] theorem and_u8_127 (x : Int) : bits .and .u8 x 127 = x % 128 := by simpa using and_range .u8 0 7 x (by decide)
@[go_sem] theorem and_u8_255 (x : Int) : bits .and .u8 x 255 = x % 256 := by simpa using and_range .u8 0 8 x (by decide)
@[go_sem] theorem and_u8_2 (x : Int) : bits .and .u8 x 2 = x / 2 % 2 * 2 := by simpa using and_range .u8 1 1 x (by decide)
@[go_sem] theorem and_u8_6 (x : Int) : bits .and .u8 x 6 = x / 2 % 4 * 2 := by simpa using and_range .u8 1 2 x (by decide)
@[go_sem] theorem and_u8_14 (x : Int) : bits .and .u8 x 14 = x / 2 % 8 * 2 := by simpa using and_range .u8 1 3 x (by decide)
@[go_sem] theorem and_u8_30 (x : Int) : bits .and .u8 x 30 = x / 2 % 16 * 2 := by simpa using and_range .u8 1 4 x (by decide)
@[go_sem] theorem and_u8_62 (x : Int) : bits .and .u8 x 62 = x / 2 % 32 * 2 := by simpa using and_range .u8 1 5 x (by decide)
@[go_sem] theorem and_u8_126 (x : Int) : bits .and .u8 x 126 = x / 2 % 64 * 2 := by simpa using and_range .u8 1 6 x (by decide)
@[go_sem] theorem and_u8_254 (x : Int) : bits .and .u8 x 254 = x / 2 % 128 * 2 := by simpa using and_range .u8 1 7 x (by decide)
@[go_sem] theorem and_u8_4 (x : Int) : bits .and .u8 x 4 = x / 4 % 2 * 4 := by simpa using and_range .u8 2 1 x (by decide)
@[go_sem] theorem and_u8_12 (x : Int) : bits .and .u8 x 12 = x / 4 % 4 * 4 := by simpa using and_range .u8 2 2 x (by decide)
@[go_sem] theorem and_u8_28 (x : Int) : bits .and .u8 x 28 = x / 4 % 8 * 4 := by simpa using and_range .u8 2 3 x (by decide)
@[go_sem] theorem and_u8_60 (x : Int) : bits .and .u8 x 60 = x / 4 % 16 * 4 := by simpa using and_range .u8 2 4 x (by decide)
@[go_sem] theorem and_u8_124 (x : Int) : bits .and .u8 x 124 = x / 4 % 32 * 4 := by simpa using and_range .u8 2 5 x (by decide)
@[go_sem] theorem and_u8_252 (x : Int) : bits .and .u8 x 252 = x / 4 % 64 * 4 := by simpa using and_range .u8 2 6 x (by decide)
@[go_sem] theorem and_u8_8 (x : Int) : bits .and .u8 x 8 = x / 8 % 2 * 8 := by simpa using and_range .u8 3 1 x (by decide)
@[go_sem] theorem and_u8_24 (x : Int) : bits .and .u8 x 24 = x / 8 % 4 * 8 := by simpa using and_range .u8 3 2 x (by decide)
@[go_sem] theorem and_u8_56 (x : Int) : bits .and .u8 x 56 = x / 8 % 8 * 8 := by simpa using and_range .u8 3 3 x (by decide)
@[go_sem] theorem and_u8_120 (x : Int) : bits .and .u8 x 120 = x / 8 % 16 * 8 := by simpa using and_range .u8 3 4 x (by decide)
@[go_sem] theorem and_u8_248 (x : Int) : bits .and .u8 x 248 = x / 8 % 32 * 8 := by simpa using and_range .u8 3 5 x (by decide)
@[go_sem] theorem and_u8_16 (x : Int) : bits .and .u8 x 16 = x / 16 % 2 * 16 := by simpa using and_range .u8 4 1 x (by decide)
@[go_sem] theorem and_u8_48 (x : Int) : bits .and .u8 x 48 = x / 16 % 4 * 16 := by simpa using and_range .u8 4 2 x (by decide)
@[go_sem] theorem and_u8_112 (x : Int) : bits .and .u8 x 112 = x / 16 % 8 * 16 := by simpa using and_range .u8 4 3 x (by decide)
@[go_sem] theorem and_u8_240 (x : Int) : bits .and .u8 x 240 = x / 16 % 16 * 16 := by simpa using and_range .u8 4 4 x (by decide)
@[go_sem] theorem and_u8_32 (x : Int) : bits .and .u8 x 32 = x / 32 % 2 * 32 := by simpa using and_range .u8 5 1 x (by decide)
@[go_sem] theorem and_u8_96 (x : Int) : bits .and .u8 x 96 = x / 32 % 4 * 32 := by simpa using and_range .u8 5 2 x (by decide)
@[go_sem] theorem and_u8_224 (x : Int) : bits .and .u8 x 224 = x / 32 % 8 * 32 := by simpa using and_range .u8 5 3 x (by decide)
@[go_sem] theorem and_u8_64 (x : Int) : bits .and .u8 x 64 = x / 64 % 2 * 64 := by simpa using and_range .u8 6 1 x (by decide)
@[go_sem] theorem and_u8_192 (x : Int) : bits .and .u8 x 192 = x / 64 % 4 * 64 := by simpa using and_range .u8 6 2 x (by decide)
@[go_sem] theorem and_u8_128 (x : Int) : bits .and .u8 x 128 = x / 128 % 2 * 128 := by simpa using and_range .u8 7 1 x (by decide)
@[go_sem] theorem and_u16_1 (x : Int) : bits .and .u16 x 1 = x % 2 := by simpa using and_range .u16 0 1 x (by decide)
@[go_sem] theorem and_u16_3 (x : Int) : bits .and .u16 x 3 = x % 4 := by simpa using and_range .u16 0 2 x (by decide)
@[go_sem] theorem and_u16_7 (x : Int) : bits .and .u16 x 7 = x % 8 := by simpa using and_range .u16 0 3 x (by decide)
@[go_sem] theorem and_u16_15 (x : Int) : bits .and .u16 x 15 = x % 16 := by simpa using and_range .u16 0 4 x (by decide)
@[go_sem] theorem and_u16_31 (x : Int) : bits .and .u16 x 31 = x % 32 := by simpa using and_range .u16 0 5 x (by decide)
@[go_sem] theorem and_u16_63 (x : Int) : bits .and .u16 x 63 = x % 64 := by simpa using and_range .u16 0 6 x (by decide)
@[go_sem] theorem and_u16_127 (x : Int) : bits .and .u16 x 127 = x % 128 := by simpa using and_range .u16 0 7 x (by decide)
@[go_sem] theorem and_u16_255 (x : Int) : bits .and .u16 x 255 = x % 256 := by simpa using and_range .u16 0 8 x (by decide)
@[go_sem] theorem and_u16_511 (x : Int) : bits .and .u16 x 511 = x % 512 := by simpa using and_range .u16 0 9 x (by decide)
@[go_sem] theorem and_u16_1023 (x : Int) : bits .and .u16 x 1023 = x % 1024 := by simpa using and_range .u16 0 10 x (by decide)
@[go_sem] theorem and_u16_2047 (x : Int) : bits .and .u16 x 2047 = x % 2048 := by simpa using and_range .u16 0 11 x (by decide)
@[go_sem] theorem and_u16_4095 (x : Int) : bits .and .u16 x 4095 = x % 4096 := by simpa using and_range .u16 0 12 x (by decide)
@[go_sem] theorem and_u16_8191 (x : Int) : bits .and .u16 x 8191 = x % 8192 := by simpa using and_range .u16 0 13 x (by decide)
@[go_sem] theorem and_u16_16383 (x : Int) : bits .and .u16 x 16383 = x % 16384 := by simpa using and_range .u16 0 14 x (by decide)
@[go_sem] theorem and_u16_32767 (x : Int) : bits .and .u16 x 32767 = x % 32768 := by simpa using and_range .u16 0 15 x (by decide)
@[go_sem] theorem and_u16_65535 (x : Int) : bits .and .u16 x 65535 = x % 65536 := by simpa using and_range .u16 0 16 x (by decide)
@[go_sem] theorem and_u16_2 (x : Int) : bits .and .u16 x 2 = x / 2 % 2 * 2 := by simpa using and_range .u16 1 1 x (by decide)
@[go_sem] theorem and_u16_6 (x : Int) : bits .and .u16 x 6 = x / 2 % 4 * 2 := by simpa using and_range .u16 1 2 x (by decide)
@[go_sem] theorem and_u16_14 (x : Int) : bits .and .u16 x 14 = x / 2 % 8 * 2 := by simpa using and_range .u16 1 3 x (by decide)
@[go_sem] theorem and_u16_30 (x : Int) : bits .and .u16 x 30 = x / 2 % 16 * 2 := by simpa using and_range .u16 1 4 x (by decide)
@[go_sem] theorem and_u16_126 (x : Int) : bits .and .u16 x 126 = x / 2 % 64 * 2 := by simpa using and_range .u16 1 6 x (by decide)
@[go_sem] theorem and_u16_254 (x : Int) : bits .and .u16 x 254 = x / 2 % 128 * 2 := by simpa using and_range .u16 1 7 x (by decide)
@[go_sem] theorem and_u16_510 (x : Int) : bits .and .u16 x 510 = x / 2 % 256 * 2 := by simpa using and_range .u16 1 8 x (by decide)
@[go_sem] theorem and_u16_65534 (x : Int) : bits .and .u16 x 65534 = x / 2 % 32768 * 2 := by simpa using and_range .u16 1 15 x (by decide)
@[go_sem] theorem and_u16_4 (x : Int) : bits .and .u16 x 4 = x / 4 % 2 * 4 := by simpa using and_range .u16 2 1 x (by decide)
@[go_sem] theorem and_u16_12 (x : Int) : bits .and .u16 x 12 = x / 4 % 4 * 4 := by simpa using and_range .u16 2 2 x (by decide)
@[go_sem] theorem and_u16_28 (x : Int) : bits .and .u16 x 28 = x / 4 % 8 * 4 := by simpa using and_range .u16 2 3 x (by decide)
@[go_sem] theorem and_u16_60 (x : Int) : bits .and .u16 x 60 = x / 4 % 16 * 4 := by simpa using and_range .u16 2 4 x (by decide)
@[go_sem] theorem and_u16_252 (x : Int) : bits .and .u16 x 252 = x / 4 % 64 * 4 := by simpa using and_range .u16 2 6 x (by decide)
@[go_sem] theorem and_u16_508 (x : Int) : bits .and .u16 x 508 = x / 4 % 128 * 4 := by simpa using and_range .u16 2 7 x (by decide)
@[go_sem] theorem and_u16_1020 (x : Int) : bits .and .u16 x 1020 = x / 4 % 256 * 4 := by simpa using and_range .u16 2 8 x (by decide)
@[go_sem] theorem and_u16_65532 (x : Int) : bits .and .u16 x 65532 = x / 4 % 16384 * 4 := by simpa using and_range .u16 2 14 x (by decide)
@[go_sem] theorem and_u16_8 (x : Int) : bits .and .u16 x 8 = x / 8 % 2 * 8 := by simpa using and_range .u16 3 1 x (by decide)
@[go_sem] theorem and_u16_24 (x : Int) : bits .and .u16 x 24 = x / 8 % 4 * 8 := by simpa using and_range .u16 3 2 x (by decide)
@[go_sem] theorem and_u16_56 (x : Int) : bits .and .u16 x 56 = x / 8 % 8 * 8 := by simpa using and_range .u16 3 3 x (by decide)
@[go_sem] theorem and_u16_120 (x : Int) : bits .and .u16 x 120 = x / 8 % 16 * 8 := by simpa using and_range .u16 3 4 x (by decide)
@[go_sem] theorem and_u16_504 (x : Int) : bits .and .u16 x 504 = x / 8 % 64 * 8 := by simpa using and_range .u16 3 6 x (by decide)
@[go_sem] theorem and_u16_1016 (x : Int) : bits .and .u16 x 1016 = x / 8 % 128 * 8 := by simpa using and_range .u16 3 7 x (by decide)
@[go_sem] theorem and_u16_2040 (x : Int) : bits .and .u16 x 2040 = x / 8 % 256 * 8 := by simpa using and_range .u16 3 8 x (by decide)
@[go_sem] theorem and_u16_65528 (x : Int) : bits .and .u16 x 65528 = x / 8 % 8192 * 8 := by simpa using and_range .u16 3 13 x (by decide)
@[go_sem] theorem and_u16_16 (x : Int) : bits .and .u16 x 16 = x / 16 % 2 * 16 := by simpa using and_range .u16 4 1 x (by decide)
@[go_sem] theorem and_u16_48 (x : Int) : bits .and .u16 x 48 = x / 16 % 4 * 16 := by simpa using and_range .u16 4 2 x (by decide)
@[go_sem] theorem and_u16_112 (x : Int) : bits .and .u16 x 112 = x / 16 % 8 * 16 := by simpa using and_range .u16 4 3 x (by decide)
@[go_sem] theorem and_u16_240 (x : Int) : bits .and .u16 x 240 = x / 16 % 16 * 16 := by simpa using and_range .u16 4 4 x (by decide)
@[go_sem] theorem and_u16_1008 (x : Int) : bits .and .u16 x 1008 = x / 16 % 64 * 16 := by simpa using and_range .u16 4 6 x (by decide)
@[go_sem] theorem and_u16_2032 (x : Int) : bits .and .u16 x 2032 = x / 16 % 128 * 16 := by simpa using and_range .u16 4 7 x (by decide)
@[go_sem] theorem and_u16_4080 (x : Int) : bits .and .u16 x 4080 = x / 16 % 256 * 16 := by simpa using and_range .u16 4 8 x (by decide)
@[go_sem] theorem and_u16_65520 (x : Int) : bits .and .u16 x 65520 = x / 16 % 4096 * 16 := by simpa using and_range .u16 4 12 x (by decide)
@[go_sem] theorem and_u16_32 (x : Int) : bits .and .u16 x 32 = x / 32 % 2 * 32 := by simpa using and_range .u16 5 1 x (by decide)
@[go_sem] theorem and_u16_96 (x : Int) : bits .and .u16 x 96 = x / 32 % 4 * 32 := by simpa using and_range .u16 5 2 x (by decide)
@[go_sem] theorem and_u16_224 (x : Int) : bits .and .u16 x 224 = x / 32 % 8 * 32 := by simpa using and_range .u16 5 3 x (by decide)
@[go_sem] theorem and_u16_480 (x : Int) : bits .and .u16 x 480 = x / 32 % 16 * 32 := by simpa using and_range .u16 5 4 x (by decide)
@[go_sem] theorem and_u16_2016 (x : Int) : bits .and .u16 x 2016 = x / 32 % 64 * 32 := by simpa using and_range .u16 5 6 x (by decide)
@[go_sem] theorem and_u16_4064 (x : Int) : bits .and .u16 x 4064 = x / 32 % 128 * 32 := by simpa using and_range .u16 5 7 x (by decide)
@[go_sem] theorem and_u16_8160 (x : Int) : bits .and .u16 x 8160 = x / 32 % 256 * 32 := by simpa using and_range .u16 5 8 x (by decide)
@[go_sem] theorem and_u16_65504 (x : Int) : bits .and .u16 x 65504 = x / 32 % 2048 * 32 := by simpa using and_range .u16 5 11 x (by decide)
@[go_sem] theorem and_u16_64 (x : Int) : bits .and .u16 x 64 = x / 64 % 2 * 64 := by simpa using and_range .u16 6 1 x (by decide)
@[go_sem] theorem and_u16_192 (x : Int) : bits .and .u16 x 192 = x / 64 % 4 * 64 := by simpa using and_range .u16 6 2 x (by decide)
@[go_sem] theorem and_u16_448 (x : Int) : bits .and .u16 x 448 = x / 64 % 8 * 64 := by simpa using and_range .u16 6 3 x (by decide)
@[go_sem] theorem and_u16_960 (x : Int) : bits .and .u16 x 960 = x / 64 % 16 * 64 := by simpa using and_range .u16 6 4 x (by decide)
@[go_sem] theorem and_u16_4032 (x : Int) : bits .and .u16 x 4032 = x / 64 % 64 * 64 := by simpa using and_range .u16 6 6 x (by decide)
@[go_sem] theorem and_u16_8128 (x : Int) : bits .and .u16 x 8128 = x / 64 % 128 * 64 := by simpa using and_range .u16 6 7 x (by decide)
@[go_sem] theorem and_u16_16320 (x : Int) : bits .and .u16 x 16320 = x / 64 % 256 * 64 := by simpa using and_range .u16 6 8 x (by decide)
@[go_sem] theorem and_u16_65472 (x : Int) : bits .and .u16 x 65472 = x / 64 % 1024 * 64 := by simpa using and_range .u16 6 10 x (by decide)
@[go_sem] theorem and_u16_128 (x : Int) : bits .and .u16 x 128 = x / 128 % 2 * 128 := by simpa using and_range .u16 7 1 x (by decide)
@[go_sem] theorem and_u16_384 (x : Int) : bits .and .u16 x 384 = x / 128 % 4 * 128 := by simpa using and_range .u16 7 2 x (by decide)
@[go_sem] theorem and_u16_896 (x : Int) : bits .and .u16 x 896 = x / 128 % 8 * 128 := by simpa using and_range .u16 7 3 x (by decide)
@[go_sem] theorem and_u16_1920 (x : Int) : bits .and .u16 x 1920 = x / 128 % 16 * 128 := by simpa using and_range .u16 7 4 x (by decide)
@[go_sem] theorem and_u16_8064 (x : Int) : bits .and .u16 x 8064 = x / 128 % 64 * 128 := by simpa using and_range .u16 7 6 x (by decide)
@[go_sem] theorem and_u16_16256 (x : Int) : bits .and .u16 x 16256 = x / 128 % 128 * 128 := by simpa using and_range .u16 7 7 x (by decide)
@[go_sem] theorem and_u16_32640 (x : Int) : bits .and .u16 x 32640 = x / 128 % 256 * 128 := by simpa using and_range .u16 7 8 x (by decide)
@[go_sem] theorem and_u16_65408 (x : Int) : bits .and .u16 x 65408 = x / 128 % 512 * 128 := by simpa using and_range .u16 7 9 x (by decide)
@[go_sem] theorem and_u16_256 (x : Int) : bits .and .u16 x 256 = x / 256 % 2 * 256 := by simpa using and_range .u16 8 1 x (by decide)
@[go_sem] theorem and_u16_768 (x : Int) : bits .and .u16 x 768 = x / 256 % 4 * 256 := by simpa using and_range .u16 8 2 x (by decide)
@[go_sem] theorem and_u16_1792 (x : Int) : bits .and .u16 x 1792 = x / 256 % 8 * 256 := by simpa using and_range .u16 8 3 x (by decide)
@[go_sem] theorem and_u16_3840 (x : Int) : bits .and .u16 x 3840 = x / 256 % 16 * 256 := by simpa using and_range .u16 8 4 x (by decide)
@[go_sem] theorem and_u16_16128 (x : Int) : bits .and .u16 x 16128 = x / 256 % 64 * 256 := by simpa using and_range .u16 8 6 x (by decide)
@[go_sem] theorem and_u16_32512 (x : Int) : bits .and .u16 x 32512 = x / 256 % 128 * 256 := by simpa using and_range .u16 8 7 x (by decide)
@[go_sem] theorem and_u16_65280 (x : Int) : bits .and .u16 x 65280 = x / 256 % 256 * 256 := by simpa using and_range .u16 8 8 x (by decide)
@[go_sem] theorem and_u16_512 (x : Int) : bits .and .u16 x 512 = x / 512 % 2 * 512 := by simpa using and_range .u16 9 1 x (by decide)
@[go_sem] theorem and_u16_1536 (x : Int) : bits .and .u16 x 1536 = x / 512 % 4 * 512 := by simpa using and_range .u16 9 2 x (by decide)
@[go_sem] theorem and_u16_3584 (x : Int) : bits .and .u16 x 3584 = x / 512 % 8 * 512 := by simpa using and_range .u16 9 3 x (by decide)
@[go_sem] theorem and_u16_7680 (x : Int) : bits .and .u16 x 7680 = x / 512 % 16 * 512 := by simpa using and_range .u16 9 4 x (by decide)
@[go_sem] theorem and_u16_32256 (x : Int) : bits .and .u16 x 32256 = x / 512 % 64 * 512 := by simpa using and_range .u16 9 6 x (by decide)
@[go_sem] theorem and_u16_65024 (x : Int) : bits .and .u16 x 65024 = x / 512 % 128 * 512 := by simpa using and_range .u16 9 7 x (by decide)
@[go_sem] theorem and_u16_1024 (x : Int) : bits .and .u16 x 1024 = x / 1024 % 2 * 1024 := by simpa using and_range .u16 10 1 x (by decide)
@[go_sem] theorem and_u16_3072 (x : Int) : bits .and .u16 x 3072 = x / 1024 % 4 * 1024 := by simpa using and_range .u16 10 2 x (by decide)
@[go_sem] theorem and_u16_7168 (x : Int) : bits .and .u16 x 7168 = x / 1024 % 8 * 1024 := by simpa using and_range .u16 10 3 x (by decide)
@[go_sem] theorem and_u16_15360 (x : Int) : bits .and .u16 x 15360 = x / 1024 % 16 * 1024 := by simpa using and_range .u16 10 4 x (by decide)
@[go_sem] theorem and_u16_64512 (x : Int) : bits .and .u16 x 64512 = x / 1024 % 64 * 1024 := by simpa using and_range .u16 10 6 x (by decide)
@[go_sem] theorem and_u16_2048 (x : Int) : bits .and .u16 x 2048 = x / 2048 % 2 * 2048 := by simpa using and_range .u16 11 1 x (by decide)
@[go_sem] theorem and_u16_6144 (x : Int) : bits .and .u16 x 6144 = x / 2048 % 4 * 2048 := by simpa using and_range .u16 11 2 x (by decide)
@[go_sem] theorem and_u16_14336 (x : Int) : bits .and .u16 x 14336 = x / 2048 % 8 * 2048 := by simpa using and_range .u16 11 3 x (by decide)
@[go_sem] theorem and_u16_30720 (x : Int) : bits .and .u16 x 30720 = x / 2048 % 16 * 2048 := by simpa using and_range .u16 11 4 x (by decide)
@[go_sem] theorem and_u16_63488 (x : Int) : bits .and .u16 x 63488 = x / 2048 % 32 * 2048 := by simpa using and_range .u16 11 5 x (by decide)
@[go_sem] theorem and_u16_4096 (x : Int) : bits .and .u16 x 4096 = x / 4096 % 2 * 4096 := by simpa using and_range .u16 12 1 x (by decide)
@[go_sem] theorem and_u16_12288 (x : Int) : bits .and .u16 x 12288 = x / 4096 % 4 * 4096 := by simpa using and_range .u16 12 2 x (by decide)
@[go_sem] theorem and_u16_28672 (x : Int) : bits .and .u16 x 28672 = x / 4096 % 8 * 4096 := by simpa using and_range .u16 12 3 x (by decide)
@[go_sem] theorem and_u16_61440 (x : Int) : bits .and .u16 x 61440 = x / 4096 % 16 * 4096 := by simpa using and_range .u16 12 4 x (by decide)
@[go_sem] theorem and_u16_8192 (x : Int) : bits .and .u16 x 8192 = x / 8192 % 2 * 8192 := by simpa using and_range .u16 13 1 x (by decide)
@[go_sem] theorem and_u16_24576 (x : Int) : bits .and .u16 x 24576 = x / 8192 % 4 * 8192 := by simpa using and_range .u16 13 2 x (by decide)
@[go_sem] theorem and_u16_57344 (x : Int) : bits .and .u16 x 57344 = x / 8192 % 8 * 8192 := by simpa using and_range .u16 13 3 x (by decide)
@[go_sem] theorem and_u16_16384 (x : Int) : bits .and .u16 x 16384 = x / 16384 % 2 * 16384 := by simpa using and_range .u16 14 1 x (by decide)
@[go_sem] theorem and_u16_49152 (x : Int) : bits .and .u16 x 49152 = x / 16384 % 4 * 16384 := by simpa using and_range .u16 14 2 x (by decide)
@[go_sem] theorem and_u16_32768 (x : Int) : bits .and .u16 x 32768 = x / 32768 % 2 * 32768 := by simpa using and_range .u16 15 1 x (by decide)
@[go_sem] theorem and_u32_1 (x : Int) : bits .and .u32 x 1 = x % 2 := by simpa using and_range .u32 0 1 x (by decide)
@[go_sem] theorem and_u32_3 (x : Int) : bits .and .u32 x 3 = x % 4 := by simpa using and_range .u32 0 2 x (by decide)
@[go_sem] theorem and_u32_7 (x : Int) : bits .and .u32 x 7 = x % 8 := by simpa using and_range .u32 0 3 x (by decide)
@[go_sem] theorem and_u32_15 (x : Int) : bits .and .u32 x 15 = x % 16 := by simpa using and_range .u32 0 4 x (by decide)
@[go_sem] theorem and_u32_31 (x : Int) : bits .and .u32 x 31 = x % 32 := by simpa using and_range .u32 0 5 x (by decide)
@[go_sem] theorem and_u32_63 (x : Int) : bits .and .u32 x 63 = x % 64 := by simpa using and_range .u32 0 6 x (by decide)
@[go_sem] theorem and_u32_127 (x : Int) : bits .and .u32 x 127 = x % 128 := by simpa using and_range .u32 0 7 x (by decide)
@[go_sem] theorem and_u32_255 (x : Int) : bits .and .u32 x 255 = x % 256 := by simpa using and_range .u32 0 8 x (by decide)
@[go_sem] theorem and_u32_511 (x : Int) : bits .and .u32 x 511 = x % 512 := by simpa using and_range .u32 0 9 x (by decide)
@[go_sem] theorem and_u32_1023 (x : Int) : bits .and .u32 x 1023 = x % 1024 := by simpa using and_range .u32 0 10 x (by decide)
@[go_sem] theorem and_u32_2047 (x : Int) : bits .and .u32 x 2047 = x % 2048 := by simpa using and_range .u32 0 11 x (by decide)
@[go_sem] theorem and_u32_4095 (x : Int) : bits .and .u32 x 4095 = x % 4096 := by simpa using and_range .u32 0 12 x (by decide)
@[go_sem] theorem and_u32_8191 (x : Int) : bits .and .u32 x 8191 = x % 8192 := by simpa using and_range .u32 0 13 x (by decide)
@[go_sem] theorem and_u32_16383 (x : Int) : bits .and .u32 x 16383 = x % 16384 := by simpa using and_range .u32 0 14 x (by decide)
@[go_sem] theorem and_u32_32767 (x : Int) : bits .and .u32 x 32767 = x % 32768 := by simpa using and_range .u32 0 15 x (by decide)
@[go_sem] theorem and_u32_65535 (x : Int) : bits .and .u32 x 65535 = x % 65536 := by simpa using and_range .u32 0 16 x (by decide)
@[go_sem] theorem and_u32_131071 (x : Int) : bits .and .u32 x 131071 = x % 131072 := by simpa using and_range .u32 0 17 x (by decide)
@[go_sem] theorem and_u32_262143 (x : Int) : bits .and .u32 x 262143 = x % 262144 := by simpa using and_range .u32 0 18 x (by decide)
@[go_sem] theorem and_u32_524287 (x : Int) : bits .and .u32 x 524287 = x % 524288 := by simpa using and_range .u32 0 19 x (by decide)
@[go_sem] theorem and_u32_1048575 (x : Int) : bits .and .u32 x 1048575 = x % 1048576 := by simpa using and_range .u32 0 20 x (by decide)
@[go_sem] theorem and_u32_2097151 (x : Int) : bits .and .u32 x 2097151 = x % 2097152 := by simpa using and_range .u32 0 21 x (by decide)
@[go_sem] theorem and_u32_4194303 (x : Int) : bits .and .u32 x 4194303 = x % 4194304 := by simpa using and_range .u32 0 22 x (by decide)
@[go_sem] theorem and_u32_8388607 (x : Int) : bits .and .u32 x 8388607 = x % 8388608 := by simpa using and_range .u32 0 23 x (by decide)
@[go_sem] theorem and_u32_16777215 (x : Int) : bits .and .u32 x 16777215 = x % 16777216 := by simpa using and_range .u32 0 24 x (by decide)
@[go_sem] theorem and_u32_33554431 (x : Int) : bits .and .u32 x 33554431 = x % 33554432 := by simpa using and_range .u32 0 25 x (by decide)
@[go_sem] theorem and_u32_67108863 (x : Int) : bits .and .u32 x 67108863 = x % 67108864 := by simpa using and_range .u32 0 26 x (by decide)
@[go_sem] theorem and_u32_134217727 (x : Int) : bits .and .u32 x 134217727 = x % 134217728 := by simpa using and_range .u32 0 27 x (by decide)
@[go_sem] theorem and_u32_268435455 (x : Int) : bits .and .u32 x 268435455 = x % 268435456 := by simpa using and_range .u32 0 28 x (by decide)
@[go_sem] theorem and_u32_536870911 (x : Int) : bits .and .u32 x 536870911 = x % 536870912 := by simpa using and_range .u32 0 29 x (by decide)
@[go_sem] theorem and_u32_1073741823 (x : Int) : bits .and .u32 x 1073741823 = x % 1073741824 := by simpa using and_range .u32 0 30 x (by decide)
@[go_sem] theorem and_u32_2147483647 (x : Int) : bits .and .u32 x 2147483647 = x % 2147483648 := by simpa using and_range .u32 0 31 x (by decide)
@[go_sem] theorem and_u32_4294967295 (x : Int) : bits .and .u32 x 4294967295 = x % 4294967296 := by simpa using and_range .u32 0 32 x (by decide)
@[go_sem] theorem and_u32_2 (x : Int) : bits .and .u32 x 2 = x / 2 % 2 * 2 := by simpa using and_range .u32 1 1 x (by decide)
@[go_sem] theorem and_u32_65534 (x : Int) : bits .and .u32 x 65534 = x / 2 % 32768 * 2 := by simpa using and_range .u32 1 15 x (by decide)
@[go_sem] theorem and_u32_4 (x : Int) : bits .and .u32 x 4 = x / 4 % 2 * 4 := by simpa using and_range .u32 2 1 x (by decide)
@[go_sem] theorem and_u32_65532 (x : Int) : bits .and .u32 x 65532 = x / 4 % 16384 * 4 := by simpa using and_range .u32 2 14 x (by decide)
@[go_sem] theorem and_u32_8 (x : Int) : bits .and .u32 x 8 = x / 8 % 2 * 8 := by simpa using and_range .u32 3 1 x (by decide)
@[go_sem] theorem and_u32_65528 (x : Int) : bits .and .u32 x 65528 = x / 8 % 8192 * 8 := by simpa using and_range .u32 3 13 x (by decide)
@[go_sem] theorem and_u32_16 (x : Int) : bits .and .u32 x 16 = x / 16 % 2 * 16 := by simpa using and_range .u32 4 1 x (by decide)
@[go_sem] theorem and_u32_65520 (x : Int) : bits .and .u32 x 65520 = x / 16 % 4096 * 16 := by simpa using and_range .u32 4 12 x (by decide)
@[go_sem] theorem and_u32_32 (x : Int) : bits .and .u32 x 32 = x / 32 % 2 * 32 := by simpa using and_range .u32 5 1 x (by decide)
@[go_sem] theorem and_u32_65504 (x : Int) : bits .and .u32 x 65504 = x / 32 % 2048 * 32 := by simpa using and_range .u32 5 11 x (by decide)
@[go_sem] theorem and_u32_64 (x : Int) : bits .and .u32 x 64 = x / 64 % 2 * 64 := by simpa using and_range .u32 6 1 x (by decide)
@[go_sem] theorem and_u32_65472 (x : Int) : bits .and .u32 x 65472 = x / 64 % 1024 * 64 := by simpa using and_range .u32 6 10 x (by decide)
@[go_sem] theorem and_u32_128 (x : Int) : bits .and .u32 x 128 = x / 128 % 2 * 128 := by simpa using and_range .u32 7 1 x (by decide)
@[go_sem] theorem and_u32_65408 (x : Int) : bits .and .u32 x 65408 = x / 128 % 512 * 128 := by simpa using and_range .u32 7 9 x (by decide)
@[go_sem] theorem and_u32_256 (x : Int) : bits .and .u32 x 256 = x / 256 % 2 * 256 := by simpa using and_range .u32 8 1 x (by decide)
@[go_sem] theorem and_u32_65280 (x : Int) : bits .and .u32 x 65280 = x / 256 % 256 * 256 := by simpa using and_range .u32 8 8 x (by decide)
@[go_sem] theorem and_u32_512 (x : Int) : bits .and .u32 x 512 = x / 512 % 2 * 512 := by simpa using and_range .u32 9 1 x (by decide)
@[go_sem] theorem and_u32_65024 (x : Int) : bits .and .u32 x 65024 = x / 512 % 128 * 512 := by simpa using and_range .u32 9 7 x (by decide)
@[go_sem] theorem and_u32_1024 (x : Int) : bits .and .u32 x 1024 = x / 1024 % 2 * 1024 := by simpa using and_range .u32 10 1 x (by decide)
@[go_sem] theorem and_u32_64512 (x : Int) : bits .and .u32 x 64512 = x / 1024 % 64 * 1024 := by simpa using and_range .u32 10 6 x (by decide)
@[go_sem] theorem and_u32_2048 (x : Int) : bits .and .u32 x 2048 = x / 2048 % 2 * 2048 := by simpa using and_range .u32 11 1 x (by decide)
@[go_sem] theorem and_u32_63488 (x : Int) : bits .and .u32 x 63488 = x / 2048 % 32 * 2048 := by simpa using and_range .u32 11 5 x (by decide)
@[go_sem] theorem and_u32_4096 (x : Int) : bits .and .u32 x 4096 = x / 4096 % 2 * 4096 := by simpa using and_range .u32 12 1 x (by decide)
@[go_sem] theorem and_u32_61440 (x : Int) : bits .and .u32 x 61440 = x / 4096 % 16 * 4096 := by simpa using and_range .u32 12 4 x (by decide)
@[go_sem] theorem and_u32_8192 (x : Int) : bits .and .u32 x 8192 = x / 8192 % 2 * 8192 := by simpa using and_range .u32 13 1 x (by decide)
@[go_sem] theorem and_u32_57344 (x : Int) : bits .and .u32 x 57344 = x / 8192 % 8 * 8192 := by simpa using and_range .u32 13 3 x (by decide)
@[go_sem] theorem and_u32_16384 (x : Int) : bits .and .u32 x 16384 = x / 16384 % 2 * 16384 := by simpa using and_range .u32 14 1 x (by decide)
@[go_sem] theorem and_u32_49152 (x : Int) : bits .and .u32 x 49152 = x / 16384 % 4 * 16384 := by simpa using and_range .u32 14 2 x (by decide)
@[go_sem] theorem and_u32_32768 (x : Int) : bits .and .u32 x 32768 = x / 32768 % 2 * 32768 := by simpa using and_range .u32 15 1 x (by decide)
@[go_sem] theorem and_u32_65536 (x : Int) : bits .and .u32 x 65536 = x / 65536 % 2 * 65536 := by simpa using and_range .u32 16 1 x (by decide)
@[go_sem] theorem and_u32_131072 (x : Int) : bits .and .u32 x 131072 = x / 131072 % 2 * 131072 := by simpa using and_range .u32 17 1 x (by decide)
@[go_sem] theorem and_u32_262144 (x : Int) : bits .and .u32 x 262144 = x / 262144 % 2 * 262144 := by simpa using and_range .u32 18 1 x (by decide)
@[go_sem] theorem and_u32_524288 (x : Int) : bits .and .u32 x 524288 = x / 524288 % 2 * 524288 := by simpa using and_range .u32 19 1 x (by decide)
@[go_sem] theorem and_u32_1048576 (x : Int) : bits .and .u32 x 1048576 = x / 1048576 % 2 * 1048576 := by simpa using and_range .u32 20 1 x (by decide)
@[go_sem] theorem and_u32_2097152 (x : Int) : bits .and .u32 x 2097152 = x / 2097152 % 2 * 2097152 := by simpa using and_range .u32 21 1 x (by decide)
@[go_sem] theorem and_u32_4194304 (x : Int) : bits .and .u32 x 4194304 = x / 4194304 % 2 * 4194304 := by simpa using and_range .u32 22 1 x (by decide)
@[go_sem] theorem and_u32_8388608 (x : Int) : bits .and .u32 x 8388608 = x / 8388608 % 2 * 8388608 := by simpa using and_range .u32 23 1 x (by decide)
@[go_sem] theorem and_u32_16777216 (x : Int) : bits .and .u32 x 16777216 = x / 16777216 % 2 * 16777216 := by simpa using and_range .u32 24 1 x (by decide)
@[go_sem] theorem and_u32_33554432 (x : Int) : bits .and .u32 x 33554432 = x / 33554432 % 2 * 33554432 := by simpa using and_range .u32 25 1 x (by decide)
@[go_sem] theorem and_u32_67108864 (x : Int) : bits .and .u32 x 67108864 = x / 67108864 % 2 * 67108864 := by simpa using and_range .u32 26 1 x (by decide)
@[go_sem] theorem and_u32_134217728 (x : Int) : bits .and .u32 x 134217728 = x / 134217728 % 2 * 134217728 := by simpa using and_range .u32 27 1 x (by decide)
@[go_sem] theorem and_u32_268435456 (x : Int) : bits .and .u32 x 268435456 = x / 268435456 % 2 * 268435456 := by simpa using and_range .u32 28 1 x (by decide)
@[go_sem] theorem and_u32_536870912 (x : Int) : bits .and .u32 x 536870912 = x / 536870912 % 2 * 536870912 := by simpa using and_range .u32 29 1 x (by decide)
@[go_sem] theorem and_u32_1073741824 (x : Int) : bits .and .u32 x 1073741824 = x / 1073741824 % 2 * 1073741824 := by simpa using and_range .u32 30 1 x (by decide)
@[go_sem] theorem and_u32_2147483648 (x : Int) : bits .and .u32 x 2147483648 = x / 2147483648 % 2 * 2147483648 := by simpa using and_range .u32 31 1 x (by decide)
@[go_sem] theorem and_u64_1 (x : Int) : bits .and .u64 x 1 = x % 2 := by simpa using and_range .u64 0 1 x (by decide)
@[go_sem] theorem and_u64_3 (x : Int) : bits .and .u64 x 3 = x % 4 := by simpa using and_range .u64 0 2 x (by decide)
@[go_sem] theorem and_u64_7 (x : Int) : bits .and .u64 x 7 = x % 8 := by simpa using and_range .u64 0 3 x (by decide)
@[go_sem] theorem and_u64_15 (x : Int) : bits .and .u64 x 15 = x % 16 := by simpa using and_range .u64 0 4 x (by decide)
@[go_sem] theorem and_u64_31 (x : Int) : bits .and .u64 x 31 = x % 32 := by simpa using and_range .u64 0 5 x (by decide)
@[go_sem] theorem and_u64_63 (x : Int) : bits .and .u64 x 63 = x % 64 := by simpa using and_range .u64 0 6 x (by decide)
@[go_sem] theorem and_u64_127 (x : Int) : bits .and .u64 x 127 = x % 128 := by simpa using and_range .u64 0 7 x (by decide)
@[go_sem] theorem and_u64_255 (x : Int) : bits .and .u64 x 255 = x % 256 := by simpa using and_range .u64 0 8 x (by decide)
@[go_sem] theorem and_u64_511 (x : Int) : bits .and .u64 x 511 = x % 512 := by simpa using and_range .u64 0 9 x (by decide)
@[go_sem] theorem and_u64_1023 (x : Int) : bits .and .u64 x 1023 = x % 1024 := by simpa using and_range .u64 0 10 x (by decide)
@[go_sem] theorem and_u64_2047 (x : Int) : bits .and .u64 x 2047 = x % 2048 := by simpa using and_range .u64 0 11 x (by decide)
@[go_sem] theorem and_u64_4095 (x : Int) : bits .and .u64 x 4095 = x % 4096 := by simpa using and_range .u64 0 12 x (by decide)
@[go_sem] theorem and_u64_8191 (x : Int) : bits .and .u64 x 8191 = x % 8192 := by simpa using and_range .u64 0 13 x (by decide)
@[go_sem] theorem and_u64_16383 (x : Int) : bits .and .u64 x 16383 = x % 16384 := by simpa using and_range .u64 0 14 x (by decide)
@[go_sem] theorem and_u64_32767 (x : Int) : bits .and .u64 x 32767 = x % 32768 := by simpa using and_range .u64 0 15 x (by decide)
@[go_sem] theorem and_u64_65535 (x : Int) : bits .and .u64 x 65535 = x % 65536 := by simpa using and_range .u64 0 16 x (by decide)
@[go_sem] theorem and_u64_131071 (x : Int) : bits .and .u64 x 131071 = x % 131072 := by simpa using and_range .u64 0 17 x (by decide)
@[go_sem] theorem and_u64_262143 (x : Int) : bits .and .u64 x 262143 = x % 262144 := by simpa using and_range .u64 0 18 x (by decide)
@[go_sem] theorem and_u64_524287 (x : Int) : bits .and .u64 x 524287 = x % 524288 := by simpa using and_range .u64 0 19 x (by decide)
@[go_sem] theorem and_u64_1048575 (x : Int) : bits .and .u64 x 1048575 = x % 1048576 := by simpa using and_range .u64 0 20 x (by decide)
@[go_sem] theorem and_u64_2097151 (x : Int) : bits .and .u64 x 2097151 = x % 2097152 := by simpa using and_range .u64 0 21 x (by decide)
@[go_sem] theorem and_u64_4194303 (x : Int) : bits .and .u64 x 4194303 = x % 4194304 := by simpa using and_range .u64 0 22 x (by decide)
@[go_sem] theorem and_u64_8388607 (x : Int) : bits .and .u64 x 8388607 = x % 8388608 := by simpa using and_range .u64 0 23 x (by decide)
@[go_sem] theorem and_u64_16777215 (x : Int) : bits .and .u64 x 16777215 = x % 16777216 := by simpa using and_range .u64 0 24 x (by decide)
@[go_sem] theorem and_u64_2 (x : Int) : bits .and .u64 x 2 = x / 2 % 2 * 2 := by simpa using and_range .u64 1 1 x (by decide)
@[go_sem] theorem and_u64_65534 (x : Int) : bits .and .u64 x 65534 = x / 2 % 32768 * 2 := by simpa using and_range .u64 1 15 x (by decide)
@[go_sem] theorem and_u64_4 (x : Int) : bits .and .u64 x 4 = x / 4 % 2 * 4 := by simpa using and_range .u64 2 1 x (by decide)
@[go_sem] theorem and_u64_65532 (x : Int) : bits .and .u64 x 65532 = x / 4 % 16384 * 4 := by simpa using and_range .u64 2 14 x (by decide)
@[go_sem] theorem and_u64_8 (x : Int) : bits .and .u64 x 8 = x / 8 % 2 * 8 := by simpa using and_range .u64 3 1 x (by decide)
@[go_sem] theorem and_u64_65528 (x : Int) : bits .and .u64 x 65528 = x / 8 % 8192 * 8 := by simpa using and_range .u64 3 13 x (by decide)
@[go_sem] theorem and_u64_16 (x : Int) : bits .and .u64 x 16 = x / 16 % 2 * 16 := by simpa using and_range .u64 4 1 x (by decide)
@[go_sem] theorem and_u64_65520 (x : Int) : bits .and .u64 x 65520 = x / 16 % 4096 * 16 := by simpa using and_range .u64 4 12 x (by decide)
@[go_sem] theorem and_u64_32 (x : Int) : bits .and .u64 x 32 = x / 32 % 2 * 32 := by simpa using and_range .u64 5 1 x (by decide)
@[go_sem] theorem and_u64_65504 (x : Int) : bits .and .u64 x 65504 = x / 32 % 2048 * 32 := by simpa using and_range .u64 5 11 x (by decide)
@[go_sem] theorem and_u64_64 (x : Int) : bits .and .u64 x 64 = x / 64 % 2 * 64 := by simpa using and_range .u64 6 1 x (by decide)
@[go_sem] theorem and_u64_65472 (x : Int) : bits .and .u64 x 65472 = x / 64 % 1024 * 64 := by simpa using and_range .u64 6 10 x (by decide)
@[go_sem] theorem and_u64_128 (x : Int) : bits .and .u64 x 128 = x / 128 % 2 * 128 := by simpa using and_range .u64 7 1 x (by decide)
@[go_sem] theorem and_u64_65408 (x : Int) : bits .and .u64 x 65408 = x / 128 % 512 * 128 := by simpa using and_range .u64 7 9 x (by decide)
@[go_sem] theorem and_u64_256 (x : Int) : bits .and .u64 x 256 = x / 256 % 2 * 256 := by simpa using and_range .u64 8 1 x (by decide)
@[go_sem] theorem and_u64_65280 (x : Int) : bits .and .u64 x 65280 = x / 256 % 256 * 256 := by simpa using and_range .u64 8 8 x (by decide)
@[go_sem] theorem and_u64_512 (x : Int) : bits .and .u64 x 512 = x / 512 % 2 * 512 := by simpa using and_range .u64 9 1 x (by decide)
@[go_sem] theorem and_u64_65024 (x : Int) : bits .and .u64 x 65024 = x / 512 % 128 * 512 := by simpa using and_range .u64 9 7 x (by decide)
@[go_sem] theorem and_u64_1024 (x : Int) : bits .and .u64 x 1024 = x / 1024 % 2 * 1024 := by simpa using and_range .u64 10 1 x (by decide)
@[go_sem] theorem and_u64_64512 (x : Int) : bits .and .u64 x 64512 = x / 1024 % 64 * 1024 := by simpa using and_range .u64 10 6 x (by decide)
@[go_sem] theorem and_u64_2048 (x : Int) : bits .and .u64 x 2048 = x / 2048 % 2 * 2048 := by simpa using and_range .u64 11 1 x (by decide)
@[go_sem] theorem and_u64_63488 (x : Int) : bits .and .u64 x 63488 = x / 2048 % 32 * 2048 := by simpa using and_range .u64 11 5 x (by decide)
@[go_sem] theorem and_u64_4096 (x : Int) : bits .and .u64 x 4096 = x / 4096 % 2 * 4096 := by simpa using and_range .u64 12 1 x (by decide)
@[go_sem] theorem and_u64_61440 (x : Int) : bits .and .u64 x 61440 = x / 4096 % 16 * 4096 := by simpa using and_range .u64 12 4 x (by decide)
@[go_sem] theorem and_u64_8192 (x : Int) : bits .and .u64 x 8192 = x / 8192 % 2 * 8192 := by simpa using and_range .u64 13 1 x (by decide)
@[go_sem] theorem and_u64_57344 (x : Int) : bits .and .u64 x 57344 = x / 8192 % 8 * 8192 := by simpa using and_range .u64 13 3 x (by decide)
@[go_sem] theorem and_u64_16384 (x : Int) : bits .and .u64 x 16384 = x / 16384 % 2 * 16384 := by simpa using and_range .u64 14 1 x (by decide)
@[go_sem] theorem and_u64_49152 (x : Int) : bits .and .u64 x 49152 = x / 16384 % 4 * 16384 := by simpa using and_range .u64 14 2 x (by decide)
@[go_sem] theorem and_u64_32768 (x : Int) : bits .and .u64 x 32768 = x / 32768 % 2 * 32768 := by simpa using and_range .u64 15 1 x (by decide)
@[go_sem] theorem and_u64_65536 (x : Int) : bits .and .u64 x 65536 = x / 65536 % 2 * 65536 := by simpa using and_range .u64 16 1 x (by decide)
@[go_sem] theorem and_u64_131072 (x : Int) : bits .and .u64 x 131072 = x / 131072 % 2 * 131072 := by simpa using and_range .u64 17 1 x (by decide)
@[go_sem] theorem and_u64_262144 (x : Int) : bits .and .u64 x 262144 = x / 262144 % 2 * 262144 := by simpa using and_range .u64 18 1 x (by decide)
@[go_sem] theorem and_u64_524288 (x : Int) : bits .and .u64 x 524288 = x / 524288 % 2 * 524288 := by simpa using and_range .u64 19 1 x (by decide)
@[go_sem] theorem and_u64_1048576 (x : Int) : bits .and .u64 x 1048576 = x / 1048576 % 2 * 1048576 := by simpa using and_range .u64 20 1 x (by decide)
@[go_sem] theorem and_u64_2097152 (x : Int) : bits .and .u64 x 2097152 = x / 2097152 % 2 * 2097152 := by simpa using and_range .u64 21 1 x (by decide)
@[go_sem] theorem and_u64_4194304 (x : Int) : bits .and .u64 x 4194304 = x / 4194304 % 2 * 4194304 := by simpa using and_range .u64 22 1 x (by decide)
@[go_sem] theorem and_u64_8388608 (x : Int) : bits .and .u64 x 8388608 = x / 8388608 % 2 * 8388608 := by simpa using and_range .u64 23 1 x (by decide)
@[go_sem] theorem and_i64_1 (x : Int) : bits .and .i64 x 1 = x % 2 := by simpa using and_range .i64 0 1 x (by decide)
@[go_sem] theorem and_i64_3 (x : Int) : bits .and .i64 x 3 = x % 4 := by simpa using and_range .i64 0 2 x (by decide)
@[go_sem] theorem and_i64_7 (x : Int) : bits .and .i64 x 7 = x % 8 := by simpa using and_range .i64 0 3 x (by decide)
@[go_sem] theorem and_i64_15 (x : Int) : bits .and .i64 x 15 = x % 16 := by simpa using and_range .i64 0 4 x (by decide)
@[go_sem] theorem and_i64_31 (x : Int) : bits .and .i64 x 31 = x % 32 := by simpa using and_range .i64 0 5 x (by decide)
@[go_sem] theorem and_i64_63 (x : Int) : bits .and .i64 x 63 = x % 64 := by simpa using and_range .i64 0 6 x (by decide)
@[go_sem] theorem and_i64_127 (x : Int) : bits .and .i64 x 127 = x % 128 := by simpa using and_range .i64 0 7 x (by decide)
@[go_sem] theorem and_i64_255 (x : Int) : bits .and .i64 x 255 = x % 256 := by simpa using and_range .i64 0 8 x (by decide)
@[go_sem] theorem and_i64_511 (x : Int) : bits .and .i64 x 511 = x % 512 := by simpa using and_range .i64 0 9 x (by decide)
@[go_sem] theorem and_i64_1023 (x : Int) : bits .and .i64 x 1023 = x % 1024 := by simpa using and_range .i64 0 10 x (by decide)
@[go_sem] theorem and_i64_2047 (x : Int) : bits .and .i64 x 2047 = x % 2048 := by simpa using and_range .i64 0 11 x (by decide)
@[go_sem] theorem and_i64_4095 (x : Int) : bits .and .i64 x 4095 = x % 4096 := by simpa using and_range .i64 0 12 x (by decide)
@[go_sem] theorem and_i64_8191 (x : Int) : bits .and .i64 x 8191 = x % 8192 := by simpa using and_range .i64 0 13 x (by decide)
@[go_sem] theorem and_i64_16383 (x : Int) : bits .and .i64 x 16383 = x % 16384 := by simpa using and_range .i64 0 14 x (by decide)
@[go_sem] theorem and_i64_32767 (x : Int) : bits .and .i64 x 32767 = x % 32768 := by simpa using and_range .i64 0 15 x (by decide)
@[go_sem] theorem and_i64_65535 (x : Int) : bits .and .i64 x 65535 = x % 65536 := by simpa using and_range .i64 0 16 x (by decide)
@[go_sem] theorem and_i64_131071 (x : Int) : bits .and .i64 x 131071 = x % 131072 := by simpa using and_range .i64 0 17 x (by decide)
@[go_sem] theorem and_i64_262143 (x : Int) : bits .and .i64 x 262143 = x % 262144 := by simpa using and_range .i64 0 18 x (by decide)
@[go_sem] theorem and_i64_524287 (x : Int) : bits .and .i64 x 524287 = x % 524288 := by simpa using and_range .i64 0 19 x (by decide)
@[go_sem] theorem and_i64_1048575 (x : Int) : bits .and .i64 x 1048575 = x % 1048576 := by simpa using and_range .i64 0 20 x (by decide)
@[go_sem] theorem and_i64_2097151 (x : Int) : bits .and .i64 x 2097151 = x % 2097152 := by simpa using and_range .i64 0 21 x (by decide)
@[go_sem] theorem and_i64_4194303 (x : Int) : bits .and .i64 x 4194303 = x % 4194304 := by simpa using and_range .i64 0 22 x (by decide)
@[go_sem] theorem and_i64_8388607 (x : Int) : bits .and .i64 x 8388607 = x % 8388608 := by simpa using and_range .i64 0 23 x (by decide)
@[go_sem] theorem and_i64_16777215 (x : Int) : bits .and .i64 x 16777215 = x % 16777216 := by simpa using and_range .i64 0 24 x (by decide)
@[go_sem] theorem and_i64_2 (x : Int) : bits .and .i64 x 2 = x / 2 % 2 * 2 := by simpa using and_range .i64 1 1 x (by decide)
@[go_sem] theorem and_i64_6 (x : Int) : bits .and .i64 x 6 = x / 2 % 4 * 2 := by simpa using and_range .i64 1 2 x (by decide)
@[go_sem] theorem and_i64_14 (x : Int) : bits .and .i64 x 14 = x / 2 % 8 * 2 := by simpa using and_range .i64 1 3 x (by decide)
@[go_sem] theorem and_i64_30 (x : Int) : bits .and .i64 x 30 = x / 2 % 16 * 2 := by simpa using and_range .i64 1 4 x (by decide)
@[go_sem] theorem and_i64_126 (x : Int) : bits .and .i64 x 126 = x / 2 % 64 * 2 := by simpa using and_range .i64 1 6 x (by decide)
@[go_sem] theorem and_i64_254 (x : Int) : bits .and .i64 x 254 = x / 2 % 128 * 2 := by simpa using and_range .i64 1 7 x (by decide)
@[go_sem] theorem and_i64_510 (x : Int) : bits .and .i64 x 510 = x / 2 % 256 * 2 := by simpa using and_range .i64 1 8 x (by decide)
@[go_sem] theorem and_i64_65534 (x : Int) : bits .and .i64 x 65534 = x / 2 % 32768 * 2 := by simpa using and_range .i64 1 15 x (by decide)
@[go_sem] theorem and_i64_4 (x : Int) : bits .and .i64 x 4 = x / 4 % 2 * 4 := by simpa using and_range .i64 2 1 x (by decide)
@[go_sem] theorem and_i64_12 (x : Int) : bits .and .i64 x 12 = x / 4 % 4 * 4 := by simpa using and_range .i64 2 2 x (by decide)
@[go_sem] theorem and_i64_28 (x : Int) : bits .and .i64 x 28 = x / 4 % 8 * 4 := by simpa using and_range .i64 2 3 x (by decide)
@[go_sem] theorem and_i64_60 (x : Int) : bits .and .i64 x 60 = x / 4 % 16 * 4 := by simpa using and_range .i64 2 4 x (by decide)
@[go_sem] theorem and_i64_252 (x : Int) : bits .and .i64 x 252 = x / 4 % 64 * 4 := by simpa using and_range .i64 2 6 x (by decide)
@[go_sem] theorem and_i64_508 (x : Int) : bits .and .i64 x 508 = x / 4 % 128 * 4 := by simpa using and_range .i64 2 7 x (by decide)
@[go_sem] theorem and_i64_1020 (x : Int) : bits .and .i64 x 1020 = x / 4 % 256 * 4 := by simpa using and_range .i64 2 8 x (by decide)
@[go_sem] theorem and_i64_65532 (x : Int) : bits .and .i64 x 65532 = x / 4 % 16384 * 4 := by simpa using and_range .i64 2 14 x (by decide)
@[go_sem] theorem and_i64_8 (x : Int) : bits .and .i64 x 8 = x / 8 % 2 * 8 := by simpa using and_range .i64 3 1 x (by decide)
@[go_sem] theorem and_i64_24 (x : Int) : bits .and .i64 x 24 = x / 8 % 4 * 8 := by simpa using and_range .i64 3 2 x (by decide)
@[go_sem] theorem and_i64_56 (x : Int) : bits .and .i64 x 56 = x / 8 % 8 * 8 := by simpa using and_range .i64 3 3 x (by decide)
@[go_sem] theorem and_i64_120 (x : Int) : bits .and .i64 x 120 = x / 8 % 16 * 8 := by simpa using and_range .i64 3 4 x (by decide)
@[go_sem] theorem and_i64_504 (x : Int) : bits .and .i64 x 504 = x / 8 % 64 * 8 := by simpa using and_range .i64 3 6 x (by decide)
@[go_sem] theorem and_i64_1016 (x : Int) : bits .and .i64 x 1016 = x / 8 % 128 * 8 := by simpa using and_range .i64 3 7 x (by decide)
@[go_sem] theorem and_i64_2040 (x : Int) : bits .and .i64 x 2040 = x / 8 % 256 * 8 := by simpa using and_range .i64 3 8 x (by decide)
@[go_sem] theorem and_i64_65528 (x : Int) : bits .and .i64 x 65528 = x / 8 % 8192 * 8 := by simpa using and_range .i64 3 13 x (by decide)
@[go_sem] theorem and_i64_16 (x : Int) : bits .and .i64 x 16 = x / 16 % 2 * 16 := by simpa using and_range .i64 4 1 x (by decide)
@[go_sem] theorem and_i64_48 (x : Int) : bits .and .i64 x 48 = x / 16 % 4 * 16 := by simpa using and_range .i64 4 2 x (by decide)
@[go_sem] theorem and_i64_112 (x : Int) : bits .and .i64 x 112 = x / 16 % 8 * 16 := by simpa using and_range .i64 4 3 x (by decide)
@[go_sem] theorem and_i64_240 (x : Int) : bits .and .i64 x 240 = x / 16 % 16 * 16 := by simpa using and_range .i64 4 4 x (by decide)
@[go_sem] theorem and_i64_1008 (x : Int) : bits .and .i64 x 1008 = x / 16 % 64 * 16 := by simpa using and_range .i64 4 6 x (by decide)
@[go_sem] theorem and_i64_2032 (x : Int) : bits .and .i64 x 2032 = x / 16 % 128 * 16 := by simpa using and_range .i64 4 7 x (by decide)
@[go_sem] theorem and_i64_4080 (x : Int) : bits .and .i64 x 4080 = x / 16 % 256 * 16 := by simpa using and_range .i64 4 8 x (by decide)
@[go_sem] theorem and_i64_65520 (x : Int) : bits .and .i64 x 65520 = x / 16 % 4096 * 16 := by simpa using and_range .i64 4 12 x (by decide)
@[go_sem] theorem and_i64_32 (x : Int) : bits .and .i64 x 32 = x / 32 % 2 * 32 := by simpa using and_range .i64 5 1 x (by decide)
@[go_sem] theorem and_i64_96 (x : Int) : bits .and .i64 x 96 = x / 32 % 4 * 32 := by simpa using and_range .i64 5 2 x (by decide)
@[go_sem] theorem and_i64_224 (x : Int) : bits .and .i64 x 224 = x / 32 % 8 * 32 := by simpa using and_range .i64 5 3 x (by decide)
@[go_sem] theorem and_i64_480 (x : Int) : bits .and .i64 x 480 = x / 32 % 16 * 32 := by simpa using and_range .i64 5 4 x (by decide)
@[go_sem] theorem and_i64_2016 (x : Int) : bits .and .i64 x 2016 = x / 32 % 64 * 32 := by simpa using and_range .i64 5 6 x (by decide)
@[go_sem] theorem and_i64_4064 (x : Int) : bits .and .i64 x 4064 = x / 32 % 128 * 32 := by simpa using and_range .i64 5 7 x (by decide)
@[go_sem] theorem and_i64_8160 (x : Int) : bits .and .i64 x 8160 = x / 32 % 256 * 32 := by simpa using and_range .i64 5 8 x (by decide)
@[go_sem] theorem and_i64_65504 (x : Int) : bits .and .i64 x 65504 = x / 32 % 2048 * 32 := by simpa using and_range .i64 5 11 x (by decide)
@[go_sem] theorem and_i64_64 (x : Int) : bits .and .i64 x 64 = x / 64 % 2 * 64 := by simpa using and_range .i64 6 1 x (by decide)
@[go_sem] theorem and_i64_192 (x : Int) : bits .and .i64 x 192 = x / 64 % 4 * 64 := by simpa using and_range .i64 6 2 x (by decide)
@[go_sem] theorem and_i64_448 (x : Int) : bits .and .i64 x 448 = x / 64 % 8 * 64 := by simpa using and_range .i64 6 3 x (by decide)
@[go_sem] theorem and_i64_960 (x : Int) : bits .and .i64 x 960 = x / 64 % 16 * 64 := by simpa using and_range .i64 6 4 x (by decide)
@[go_sem] theorem and_i64_4032 (x : Int) : bits .and .i64 x 4032 = x / 64 % 64 * 64 := by simpa using and_range .i64 6 6 x (by decide)
@[go_sem] theorem and_i64_8128 (x : Int) : bits .and .i64 x 8128 = x / 64 % 128 * 64 := by simpa using and_range .i64 6 7 x (by decide)
@[go_sem] theorem and_i64_16320 (x : Int) : bits .and .i64 x 16320 = x / 64 % 256 * 64 := by simpa using and_range .i64 6 8 x (by decide)
@[go_sem] theorem and_i64_65472 (x : Int) : bits .and .i64 x 65472 = x / 64 % 1024 * 64 := by simpa using and_range .i64 6 10 x (by decide)
@[go_sem] theorem and_i64_128 (x : Int) : bits .and .i64 x 128 = x / 128 % 2 * 128 := by simpa using and_range .i64 7 1 x (by decide)
@[go_sem] theorem and_i64_384 (x : Int) : bits .and .i64 x 384 = x / 128 % 4 * 128 := by simpa using and_range .i64 7 2 x (by decide)
@[go_sem] theorem and_i64_896 (x : Int) : bits .and .i64 x 896 = x / 128 % 8 * 128 := by simpa using and_range .i64 7 3 x (by decide)
@[go_sem] theorem and_i64_1920 (x : Int) : bits .and .i64 x 1920 = x / 128 % 16 * 128 := by simpa using and_range .i64 7 4 x (by decide)
@[go_sem] theorem and_i64_8064 (x : Int) : bits .and .i64 x 8064 = x / 128 % 64 * 128 := by simpa using and_range .i64 7 6 x (by decide)
@[go_sem] theorem and_i64_16256 (x : Int) : bits .and .i64 x 16256 = x / 128 % 128 * 128 := by simpa using and_range .i64 7 7 x (by decide)
@[go_sem] theorem and_i64_32640 (x : Int) : bits .and .i64 x 32640 = x / 128 % 256 * 128 := by simpa using and_range .i64 7 8 x (by decide)
@[go_sem] theorem and_i64_65408 (x : Int) : bits .and .i64 x 65408 = x / 128 % 512 * 128 := by simpa using and_range .i64 7 9 x (by decide)
@[go_sem] theorem and_i64_256 (x : Int) : bits .and .i64 x 256 = x / 256 % 2 * 256 := by simpa using and_range .i64 8 1 x (by decide)
@[go_sem] theorem and_i64_768 (x : Int) : bits .and .i64 x 768 = x / 256 % 4 * 256 := by simpa using and_range .i64 8 2 x (by decide)
@[go_sem] theorem and_i64_1792 (x : Int) : bits .and .i64 x 1792 = x / 256 % 8 * 256 := by simpa using and_range .i64 8 3 x (by decide)
@[go_sem] theorem and_i64_3840 (x : Int) : bits .and .i64 x 3840 = x / 256 % 16 * 256 := by simpa using and_range .i64 8 4 x (by decide)
@[go_sem] theorem and_i64_16128 (x : Int) : bits .and .i64 x 16128 = x / 256 % 64 * 256 := by simpa using and_range .i64 8 6 x (by decide)
@[go_sem] theorem and_i64_32512 (x : Int) : bits .and .i64 x 32512 = x / 256 % 128 * 256 := by simpa using and_range .i64 8 7 x (by decide)
@[go_sem] theorem and_i64_65280 (x : Int) : bits .and .i64 x 65280 = x / 256 % 256 * 256 := by simpa using and_range .i64 8 8 x (by decide)
@[go_sem] theorem and_i64_512 (x : Int) : bits .and .i64 x 512 = x / 512 % 2 * 512 := by simpa using and_range .i64 9 1 x (by decide)
@[go_sem] theorem and_i64_1536 (x : Int) : bits .and .i64 x 1536 = x / 512 % 4 * 512 := by simpa using and_range .i64 9 2 x (by decide)
@[go_sem] theorem and_i64_3584 (x : Int) : bits .and .i64 x 3584 = x / 512 % 8 * 512 := by simpa using and_range .i64 9 3 x (by decide)
@[go_sem] theorem and_i64_7680 (x : Int) : bits .and .i64 x 7680 = x / 512 % 16 * 512 := by simpa using and_range .i64 9 4 x (by decide)
@[go_sem] theorem and_i64_32256 (x : Int) : bits .and .i64 x 32256 = x / 512 % 64 * 512 := by simpa using and_range .i64 9 6 x (by decide)
@[go_sem] theorem and_i64_65024 (x : Int) : bits .and .i64 x 65024 = x / 512 % 128 * 512 := by simpa using and_range .i64 9 7 x (by decide)
@[go_sem] theorem and_i64_130560 (x : Int) : bits .and .i64 x 130560 = x / 512 % 256 * 512 := by simpa using and_range .i64 9 8 x (by decide)
@[go_sem] theorem and_i64_1024 (x : Int) : bits .and .i64 x 1024 = x / 1024 % 2 * 1024 := by simpa using and_range .i64 10 1 x (by decide)
@[go_sem] theorem and_i64_3072 (x : Int) : bits .and .i64 x 3072 = x / 1024 % 4 * 1024 := by simpa using and_range .i64 10 2 x (by decide)
@[go_sem] theorem and_i64_7168 (x : Int) : bits .and .i64 x 7168 = x / 1024 % 8 * 1024 := by simpa using and_range .i64 10 3 x (by decide)
@[go_sem] theorem and_i64_15360 (x : Int) : bits .and .i64 x 15360 = x / 1024 % 16 * 1024 := by simpa using and_range .i64 10 4 x (by decide)
@[go_sem] theorem and_i64_64512 (x : Int) : bits .and .i64 x 64512 = x / 1024 % 64 * 1024 := by simpa using and_range .i64 10 6 x (by decide)
@[go_sem] theorem and_i64_130048 (x : Int) : bits .and .i64 x 130048 = x / 1024 % 128 * 1024 := by simpa using and_range .i64 10 7 x (by decide)
@[go_sem] theorem and_i64_261120 (x : Int) : bits .and .i64 x 261120 = x / 1024 % 256 * 1024 := by simpa using and_range .i64 10 8 x (by decide)
@[go_sem] theorem and_i64_2048 (x : Int) : bits .and .i64 x 2048 = x / 2048 % 2 * 2048 := by simpa using and_range .i64 11 1 x (by decide)
@[go_sem] theorem and_i64_6144 (x : Int) : bits .and .i64 x 6144 = x / 2048 % 4 * 2048 := by simpa using and_range .i64 11 2 x (by decide)
@[go_sem] theorem and_i64_14336 (x : Int) : bits .and .i64 x 14336 = x / 2048 % 8 * 2048 := by simpa using and_range .i64 11 3 x (by decide)
@[go_sem] theorem and_i64_30720 (x : Int) : bits .and .i64 x 30720 = x / 2048 % 16 * 2048 := by simpa using and_range .i64 11 4 x (by decide)
@[go_sem] theorem and_i64_63488 (x : Int) : bits .and .i64 x 63488 = x / 2048 % 32 * 2048 := by simpa using and_range .i64 11 5 x (by decide)
@[go_sem] theorem and_i64_129024 (x : Int) : bits .and .i64 x 129024 = x / 2048 % 64 * 2048 := by simpa using and_range .i64 11 6 x (by decide)
@[go_sem] theorem and_i64_260096 (x : Int) : bits .and .i64 x 260096 = x / 2048 % 128 * 2048 := by simpa using and_range .i64 11 7 x (by decide)
@[go_sem] theorem and_i64_522240 (x : Int) : bits .and .i64 x 522240 = x / 2048 % 256 * 2048 := by simpa using and_range .i64 11 8 x (by decide)
@[go_sem] theorem and_i64_4096 (x : Int) : bits .and .i64 x 4096 = x / 4096 % 2 * 4096 := by simpa using and_range .i64 12 1 x (by decide)
@[go_sem] theorem and_i64_12288 (x : Int) : bits .and .i64 x 12288 = x / 4096 % 4 * 4096 := by simpa using and_range .i64 12 2 x (by decide)
@[go_sem] theorem and_i64_28672 (x : Int) : bits .and .i64 x 28672 = x / 4096 % 8 * 4096 := by simpa using and_range .i64 12 3 x (by decide)
@[go_sem] theorem and_i64_61440 (x : Int) : bits .and .i64 x 61440 = x / 4096 % 16 * 4096 := by simpa using and_range .i64 12 4 x (by decide)
@[go_sem] theorem and_i64_258048 (x : Int) : bits .and .i64 x 258048 = x / 4096 % 64 * 4096 := by simpa using and_range .i64 12 6 x (by decide)
@[go_sem] theorem and_i64_520192 (x : Int) : bits .and .i64 x 520192 = x / 4096 % 128 * 4096 := by simpa using and_range .i64 12 7 x (by decide)
@[go_sem] theorem and_i64_1044480 (x : Int) : bits .and .i64 x 1044480 = x / 4096 % 256 * 4096 := by simpa using and_range .i64 12 8 x (by decide)
@[go_sem] theorem and_i64_8192 (x : Int) : bits .and .i64 x 8192 = x / 8192 % 2 * 8192 := by simpa using and_range .i64 13 1 x (by decide)
@[go_sem] theorem and_i64_24576 (x : Int) : bits .and .i64 x 24576 = x / 8192 % 4 * 8192 := by simpa using and_range .i64 13 2 x (by decide)
@[go_sem] theorem and_i64_57344 (x : Int) : bits .and .i64 x 57344 = x / 8192 % 8 * 8192 := by simpa using and_range .i64 13 3 x (by decide)
@[go_sem] theorem and_i64_122880 (x : Int) : bits .and .i64 x 122880 = x / 8192 % 16 * 8192 := by simpa using and_range .i64 13 4 x (by decide)
@[go_sem] theorem and_i64_516096 (x : Int) : bits .and .i64 x 516096 = x / 8192 % 64 * 8192 := by simpa using and_range .i64 13 6 x (by decide)
@[go_sem] theorem and_i64_1040384 (x : Int) : bits .and .i64 x 1040384 = x / 8192 % 128 * 8192 := by simpa using and_range .i64 13 7 x (by decide)
@[go_sem] theorem and_i64_2088960 (x : Int) : bits .and .i64 x 2088960 = x / 8192 % 256 * 8192 := by simpa using and_range .i64 13 8 x (by decide)
@[go_sem] theorem and_i64_16384 (x : Int) : bits .and .i64 x 16384 = x / 16384 % 2 * 16384 := by simpa using and_range .i64 14 1 x (by decide)
@[go_sem] theorem and_i64_49152 (x : Int) : bits .and .i64 x 49152 = x / 16384 % 4 * 16384 := by simpa using and_range .i64 14 2 x (by decide)
@[go_sem] theorem and_i64_114688 (x : Int) : bits .and .i64 x 114688 = x / 16384 % 8 * 16384 := by simpa using and_range .i64 14 3 x (by decide)
@[go_sem] theorem and_i64_245760 (x : Int) : bits .and .i64 x 245760 = x / 16384 % 16 * 16384 := by simpa using and_range .i64 14 4 x (by decide)
@[go_sem] theorem and_i64_1032192 (x : Int) : bits .and .i64 x 1032192 = x / 16384 % 64 * 16384 := by simpa using and_range .i64 14 6 x (by decide)
@[go_sem] theorem and_i64_2080768 (x : Int) : bits .and .i64 x 2080768 = x / 16384 % 128 * 16384 := by simpa using and_range .i64 14 7 x (by decide)
@[go_sem] theorem and_i64_4177920 (x : Int) : bits .and .i64 x 4177920 = x / 16384 % 256 * 16384 := by simpa using and_range .i64 14 8 x (by decide)
@[go_sem] theorem and_i64_32768 (x : Int) : bits .and .i64 x 32768 = x / 32768 % 2 * 32768 := by simpa using and_range .i64 15 1 x (by decide)
@[go_sem] theorem and_i64_98304 (x : Int) : bits .and .i64 x 98304 = x / 32768 % 4 * 32768 := by simpa using and_range .i64 15 2 x (by decide)
@[go_sem] theorem and_i64_229376 (x : Int) : bits .and .i64 x 229376 = x / 32768 % 8 * 32768 := by simpa using and_range .i64 15 3 x (by decide)
@[go_sem] theorem and_i64_491520 (x : Int) : bits .and .i64 x 491520 = x / 32768 % 16 * 32768 := by simpa using and_range .i64 15 4 x (by decide)
@[go_sem] theorem and_i64_2064384 (x : Int) : bits .and .i64 x 2064384 = x / 32768 % 64 * 32768 := by simpa using and_range .i64 15 6 x (by decide)
@[go_sem] theorem and_i64_4161536 (x : Int) : bits .and .i64 x 4161536 = x / 32768 % 128 * 32768 := by simpa using and_range .i64 15 7 x (by decide)
@[go_sem] theorem and_i64_8355840 (x : Int) : bits .and .i64 x 8355840 = x / 32768 % 256 * 32768 := by simpa using and_range .i64 15 8 x (by decide)
@[go_sem] theorem and_i64_65536 (x : Int) : bits .and .i64 x 65536 = x / 65536 % 2 * 65536 := by simpa using and_range .i64 16 1 x (by decide)
@[go_sem] theorem and_i64_131072 (x : Int) : bits .and .i64 x 131072 = x / 131072 % 2 * 131072 := by simpa using and_range .i64 17 1 x (by decide)
@[go_sem] theorem and_i64_262144 (x : Int) : bits .and .i64 x 262144 = x / 262144 % 2 * 262144 := by simpa using and_range .i64 18 1 x (by decide)
@[go_sem] theorem and_i64_524288 (x : Int) : bits .and .i64 x 524288 = x / 524288 % 2 * 524288 := by simpa using and_range .i64 19 1 x (by decide)
@[go_sem] theorem and_i64_1048576 (x : Int) : bits .and .i64 x 1048576 = x / 1048576 % 2 * 1048576 := by simpa using and_range .i64 20 1 x (by decide)
@[go_sem] theorem and_i64_2097152 (x : Int) : bits .and .i64 x 2097152 = x / 2097152 % 2 * 2097152 := by simpa using and_range .i64 21 1 x (by decide)
@[go_sem] theorem and_i64_4194304 (x : Int) : bits .and .i64 x 4194304 = x / 4194304 % 2 * 4194304 := by simpa using and_range .i64 22 1 x (by decide)
@[go_sem] theorem and_i64_8388608 (x : Int) : bits .and .i64 x 8388608 = x / 8388608 % 2 * 8388608 := by simpa using and_range .i64 23 1 x (by decide)
end Go.Proofs.Ytoaecfaackkicaa
