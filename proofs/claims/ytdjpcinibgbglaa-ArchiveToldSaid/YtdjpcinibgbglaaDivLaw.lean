/- Division bit by bit: the plain law. -/
import Derived.Test.YtdjpcinibgbglaaWide3
import Derived.Laws.Bits64b
set_option linter.unusedVariables false
set_option linter.unusedSimpArgs false
namespace Go.Proofs.Ytdjpcinibgbglaa
open Go.RowKit
/-- Behind the bits above k: the quotient's part. -/
def dq (M N k : Nat) : Nat := M / 2 ^ k / N * 2 ^ k
def dr (M N k : Nat) : Nat := M / 2 ^ k % N
theorem div_bit (M k : Nat) : M / 2 ^ k = 2 * (M / 2 ^ (k + 1)) + M / 2 ^ k % 2 := by
  rw [Nat.pow_succ, ← Nat.div_div_eq_div_mul]
  omega
theorem div_step (T b N : Nat) (hN : 0 < N) (hb : b < 2) : (2 * T + b) / N = 2 * (T / N) + (if N ≤ 2 * (T % N) + b then 1 else 0) ∧ (2 * T + b) % N = 2 * (T % N) + b - (if N ≤ 2 * (T % N) + b then N else 0) := by
  have h1 := Nat.div_add_mod T N
  have h2 := Nat.mod_lt T hN
  generalize T / N = q at *
  generalize T % N = r at *
  subst h1
  have key : 2 * (N * q + r) + b = N * (2 * q) + (2 * r + b) := by grind
  rw [key]
  split
  · rename_i h
    have e : N * (2 * q) + (2 * r + b) = N * (2 * q + 1) + (2 * r + b - N) := by
      have : N * (2 * q + 1) = N * (2 * q) + N := by grind
      omega
    rw [e, Nat.mul_add_div hN, Nat.mul_add_mod, Nat.div_eq_of_lt (by omega), Nat.mod_eq_of_lt (by omega)]
    exact ⟨rfl, rfl⟩
  · rw [Nat.mul_add_div hN, Nat.mul_add_mod, Nat.div_eq_of_lt (by omega), Nat.mod_eq_of_lt (by omega)]
    exact ⟨rfl, rfl⟩
theorem dr_step (M N k : Nat) (hN : 0 < N) : dr M N k = 2 * dr M N (k + 1) + M / 2 ^ k % 2 - (if N ≤ 2 * dr M N (k + 1) + M / 2 ^ k % 2 then N else 0) := by
  unfold dr
  have := (div_step (M / 2 ^ (k + 1)) (M / 2 ^ k % 2) N hN (Nat.mod_lt _ (by decide))).2
  rw [← div_bit] at this
  exact this
theorem dq_step (M N k : Nat) (hN : 0 < N) : dq M N k = dq M N (k + 1) + (if N ≤ 2 * dr M N (k + 1) + M / 2 ^ k % 2 then 2 ^ k else 0) := by
  unfold dq dr
  have := (div_step (M / 2 ^ (k + 1)) (M / 2 ^ k % 2) N hN (Nat.mod_lt _ (by decide))).1
  rw [← div_bit] at this
  rw [this, Nat.pow_succ]
  split <;> grind
theorem dq_mod (M N k : Nat) : dq M N k % 2 ^ k = 0 := by unfold dq; exact Nat.mul_mod_left _ _
theorem dq_lt {M N k : Nat} (hM : M < 2 ^ 128) : dq M N k < 2 ^ 128 := by
  unfold dq
  have h1 : M / 2 ^ k / N * 2 ^ k ≤ M / 2 ^ k * 2 ^ k := Nat.mul_le_mul_right _ (Nat.div_le_self _ _)
  have h2 := Nat.div_mul_le_self M (2 ^ k)
  omega
theorem d_top {M N : Nat} (hM : M < 2 ^ 128) : dq M N 128 = 0 ∧ dr M N 128 = 0 := by
  unfold dq dr
  rw [Nat.div_eq_of_lt hM]
  simp
theorem d_end (M N : Nat) : dq M N 0 = M / N ∧ dr M N 0 = M % N := by simp [dq, dr]
/-- '|' of a number below 2^i onto one that is a multiple of it. -/
theorem orU (i : Nat) (a b : Nat) (ha : a < 18446744073709551616) (hm : a % 2 ^ i = 0) (hb : b < 2 ^ i) (hi : b < 18446744073709551616) : bits .or .u64 (a : Int) (b : Int) = ((a + b : Nat) : Int) := by
  rw [bits_or_u64_nat a b ha hi]
  have e : a = 2 ^ i * (a / 2 ^ i) := by
    have := Nat.div_add_mod a (2 ^ i)
    omega
  congr 1
  rw [e]
  exact (Nat.two_pow_add_eq_or_of_lt hb _).symm
theorem andOne (x : Int) (h : U64 x) : bits .and .u64 x 1 = x % 2 := by
  unfold U64 at h
  exact bits_mask .u64 64 (by decide) (fun n h0 h1 => by rw [wrapU]; omega) 1 (by decide) x h.1 (by omega)
theorem wl_nat (x : Nat) : wl (x : Int) = ((x % 18446744073709551616 : Nat) : Int) := by unfold wl; omega
theorem wh_nat (x : Nat) : wh (x : Int) = ((x / 18446744073709551616 : Nat) : Int) := by unfold wh; omega
/-- The remainder one bit on, in limbs. -/
theorem r_shift (r b : Nat) (hr : r < 2 ^ 128) (hb : b < 2) :
    bits .or .u64 (IntKind.u64.wrap (wl (r : Int) * 2)) (b : Int) = wl (((2 * r + b) % 2 ^ 128 : Nat) : Int) ∧
    bits .or .u64 (IntKind.u64.wrap (wh (r : Int) * 2)) (wl (r : Int) / 9223372036854775808) = wh (((2 * r + b) % 2 ^ 128 : Nat) : Int) := by
  have e1 : IntKind.u64.wrap (wl (r : Int) * 2) = ((2 * r % 18446744073709551616 : Nat) : Int) := by rw [wrapU, wl_nat]; omega
  have e2 : IntKind.u64.wrap (wh (r : Int) * 2) = ((r / 18446744073709551616 * 2 % 18446744073709551616 : Nat) : Int) := by rw [wrapU, wh_nat]; omega
  have e3 : wl (r : Int) / 9223372036854775808 = ((r % 18446744073709551616 / 9223372036854775808 : Nat) : Int) := by rw [wl_nat]; omega
  rw [e1, e2, e3, orU 1 _ b (by omega) (by omega) (by omega) (by omega), orU 1 _ _ (by omega) (by omega) (by omega) (by omega), wl_nat, wh_nat]
  constructor <;> congr 1 <;> omega
theorem bit_hi (M j : Nat) (h : 64 ≤ j) : wh (M : Int) / 2 ^ (j % 64) % 2 = ((M / 2 ^ j % 2 : Nat) : Int) ∨ 128 ≤ j := by
  by_cases h2 : 128 ≤ j
  · exact .inr h2
  · refine .inl ?_
    obtain ⟨t, rfl⟩ : ∃ t, j = 64 + t := ⟨j - 64, by omega⟩
    have ht : (64 + t) % 64 = t := by omega
    rw [ht, wh_nat, Nat.pow_add, ← Nat.div_div_eq_div_mul]
    norm_cast
theorem bit_lo (M j : Nat) (h : j < 64) : wl (M : Int) / 2 ^ (j % 64) % 2 = ((M / 2 ^ j % 2 : Nat) : Int) := by
  rw [Nat.mod_eq_of_lt h, wl_nat]
  have e : M % 18446744073709551616 / 2 ^ j % 2 = M / 2 ^ j % 2 := by
    have h1 := Nat.testBit_mod_two_pow M 64 j
    rw [Nat.testBit_eq_decide_div_mod_eq, Nat.testBit_eq_decide_div_mod_eq] at h1
    simp [h] at h1
    have a1 := Nat.mod_lt (M % 18446744073709551616 / 2 ^ j) (show 0 < 2 by decide)
    have a2 := Nat.mod_lt (M / 2 ^ j) (show 0 < 2 by decide)
    omega
  rw [← e]
  norm_cast
/-- Bit j set in the quotient, in limbs. -/
theorem q_hi (q j : Nat) (h : 64 ≤ j) (h2 : j < 128) (hq : q < 2 ^ 128) (hm : q % 2 ^ (j + 1) = 0) :
    bits .or .u64 (wh (q : Int)) (((2 ^ (j % 64) : Nat)) : Int) = wh ((q + 2 ^ j : Nat) : Int) ∧ wl ((q + 2 ^ j : Nat) : Int) = wl (q : Int) := by
  obtain ⟨t, rfl⟩ : ∃ t, j = 64 + t := ⟨j - 64, by omega⟩
  have ht : (64 + t) % 64 = t := by omega
  have hp : 2 ^ (64 + t) = 18446744073709551616 * 2 ^ t := by rw [Nat.pow_add]
  have hlt : 2 ^ t < 18446744073709551616 := by
    have : 2 ^ t < 2 ^ 64 := Nat.pow_lt_pow_right (by decide) (by omega)
    omega
  have hm' : q / 18446744073709551616 % 2 ^ (t + 1) = 0 := by
    obtain ⟨c, hc⟩ := Nat.dvd_of_mod_eq_zero hm
    rw [hc, show 64 + t + 1 = 64 + (t + 1) by omega, Nat.pow_add, Nat.mul_assoc, Nat.mul_div_cancel_left _ (by decide : 0 < 2 ^ 64)]
    exact Nat.mul_mod_right _ _
  have hs : 2 ^ t < 2 ^ (t + 1) := Nat.pow_lt_pow_right (by decide) (by omega)
  rw [ht, hp, wh_nat, orU (t + 1) _ _ (by omega) hm' hs hlt, wh_nat, wl_nat, wl_nat]
  constructor <;> congr 1 <;> omega
theorem q_lo (q j : Nat) (h : j < 64) (hq : q < 2 ^ 128) (hm : q % 2 ^ (j + 1) = 0) :
    bits .or .u64 (wl (q : Int)) (((2 ^ (j % 64) : Nat)) : Int) = wl ((q + 2 ^ j : Nat) : Int) ∧ wh ((q + 2 ^ j : Nat) : Int) = wh (q : Int) := by
  have hlt : 2 ^ j < 18446744073709551616 := by
    have : 2 ^ j < 2 ^ 64 := Nat.pow_lt_pow_right (by decide) h
    omega
  have hm' : q % 18446744073709551616 % 2 ^ (j + 1) = 0 := by
    have hd : 2 ^ (j + 1) ∣ 18446744073709551616 := by
      have : 2 ^ (j + 1) ∣ 2 ^ 64 := Nat.pow_dvd_pow 2 (by omega)
      exact this
    rw [Nat.mod_mod_of_dvd _ hd]
    exact hm
  have hs : 2 ^ j < 2 ^ (j + 1) := Nat.pow_lt_pow_right (by decide) (by omega)
  have hfit : q % 18446744073709551616 + 2 ^ j < 18446744073709551616 := by
    have hd : 2 ^ (j + 1) ∣ 18446744073709551616 := by
      have : 2 ^ (j + 1) ∣ 2 ^ 64 := Nat.pow_dvd_pow 2 (by omega)
      exact this
    obtain ⟨c, hc⟩ := hd
    obtain ⟨d, hd'⟩ := Nat.dvd_of_mod_eq_zero hm'
    have hl := Nat.mod_lt q (show 0 < 18446744073709551616 by decide)
    rw [hd', hc] at hl
    have hdc : d < c := Nat.lt_of_mul_lt_mul_left hl
    have : 2 ^ (j + 1) * (d + 1) ≤ 2 ^ (j + 1) * c := Nat.mul_le_mul_left _ hdc
    rw [Nat.mul_add] at this
    omega
  rw [Nat.mod_eq_of_lt h, wl_nat, orU (j + 1) _ _ (by omega) hm' hs hlt, wl_nat, wh_nat, wh_nat]
  constructor <;> congr 1 <;> omega
theorem u_hi (M t : Nat) (hM : M < 2 ^ 128) : U64 (wh (M : Int) / 2 ^ t) := by
  have e : wh (M : Int) / 2 ^ t = ((M / 18446744073709551616 / 2 ^ t : Nat) : Int) := by rw [wh_nat]; norm_cast
  have h := Nat.div_le_self (M / 18446744073709551616) (2 ^ t)
  rw [e]
  generalize M / 18446744073709551616 / 2 ^ t = y at *
  unfold U64
  omega
theorem u_lo (M t : Nat) : U64 (wl (M : Int) / 2 ^ t) := by
  have e : wl (M : Int) / 2 ^ t = ((M % 18446744073709551616 / 2 ^ t : Nat) : Int) := by rw [wl_nat]; norm_cast
  have h := Nat.div_le_self (M % 18446744073709551616) (2 ^ t)
  rw [e]
  generalize M % 18446744073709551616 / 2 ^ t = y at *
  unfold U64
  omega
end Go.Proofs.Ytdjpcinibgbglaa
