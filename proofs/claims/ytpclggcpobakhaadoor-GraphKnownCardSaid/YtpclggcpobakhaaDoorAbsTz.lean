/-
  Plain laws of words: the lowest bit of a number.
-/
import Derived.Test.YtpclggcpobakhaaDoorAbsSym
namespace Go.Ab
open Go

theorem and_low (y w : Nat) : ∀ x, x < 2 ^ w → y = 2 ^ w - 1 - x → x &&& y = 0 := by
  intro x hx hy
  apply Nat.eq_of_testBit_eq
  intro i
  rw [Nat.testBit_and, hy, show 2 ^ w - 1 - x = 2 ^ w - (x + 1) by omega, Nat.testBit_two_pow_sub_succ hx, Nat.zero_testBit]
  by_cases hi : i < w
  · simp [hi]
  · simp [hi]
theorem two_and (a b : Nat) : (2 * a) &&& (2 * b) = 2 * (a &&& b) := by
  apply Nat.eq_of_testBit_eq
  intro i
  rw [Nat.testBit_and]
  cases i with
  | zero => simp
  | succ i => rw [Nat.testBit_succ, Nat.testBit_succ, Nat.testBit_succ, show 2 * a / 2 = a by omega, show 2 * b / 2 = b by omega, show 2 * (a &&& b) / 2 = a &&& b by omega, Nat.testBit_and]
theorem odd_and (a b : Nat) : (2 * a + 1) &&& (2 * b + 1) = 2 * (a &&& b) + 1 := by
  apply Nat.eq_of_testBit_eq
  intro i
  rw [Nat.testBit_and]
  cases i with
  | zero => simp
  | succ i => rw [Nat.testBit_succ, Nat.testBit_succ, Nat.testBit_succ, show (2 * a + 1) / 2 = a by omega, show (2 * b + 1) / 2 = b by omega, show (2 * (a &&& b) + 1) / 2 = a &&& b by omega, Nat.testBit_and]
theorem low_bit : ∀ (w x : Nat), 0 < x → x < 2 ^ w → ∃ k, k < w ∧ x &&& (2 ^ w - x) = 2 ^ k ∧ ∃ q, x = 2 ^ k * (2 * q + 1)
  | 0, x, h0, h1 => by simp at h1; omega
  | w + 1, x, h0, h1 => by
    rw [Nat.pow_succ] at h1 ⊢
    rcases Nat.mod_two_eq_zero_or_one x with h | h
    · obtain ⟨y, rfl⟩ : ∃ y, x = 2 * y := ⟨x / 2, by omega⟩
      obtain ⟨k, hk, h2, q, h3⟩ := low_bit w y (by omega) (by omega)
      refine ⟨k + 1, by omega, ?_, q, ?_⟩
      · rw [show 2 ^ w * 2 - 2 * y = 2 * (2 ^ w - y) by omega, two_and, h2, Nat.pow_succ]; omega
      · rw [h3, Nat.pow_succ, Nat.mul_comm (2 ^ k) 2, Nat.mul_assoc]
    · obtain ⟨y, rfl⟩ : ∃ y, x = 2 * y + 1 := ⟨x / 2, by omega⟩
      refine ⟨0, by omega, ?_, y, by simp⟩
      rw [show 2 ^ w * 2 - (2 * y + 1) = 2 * (2 ^ w - 1 - y) + 1 by omega, odd_and, and_low _ w y (by omega) rfl]

/-- The number of zeros below the lowest bit of a word (64 for 0). -/
def tz (x : Nat) : Nat := if x = 0 then 64 else Nat.log2 (x &&& (2 ^ 64 - x))
theorem tz_low {x : Nat} (h0 : 0 < x) (h1 : x < 2 ^ 64) : tz x < 64 ∧ x &&& (2 ^ 64 - x) = 2 ^ tz x ∧ ∃ q, x = 2 ^ tz x * (2 * q + 1) := by
  obtain ⟨k, hk, h2, h3⟩ := low_bit 64 x h0 h1
  have : tz x = k := by unfold tz; rw [if_neg (by omega), h2, Nat.log2_two_pow]
  rw [this]; exact ⟨hk, h2, h3⟩
end Go.Ab
