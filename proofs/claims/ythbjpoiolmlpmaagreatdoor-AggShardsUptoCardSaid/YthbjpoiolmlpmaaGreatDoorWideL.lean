/- Package wide: Sub, Neg, Abs, Add. Package wide: Mul64, Mul, Sum, divided, Quo. Division bit by bit: the plain law. -/
import Derived.Test.YthbjpoiolmlpmaaGreatDoorWide
import Derived.Laws.BitsLemmas
import Derived.Laws.Bits64b
set_option linter.unusedVariables false
set_option linter.unusedSimpArgs false
namespace Go.Proofs.YthbjpoiolmlpmaaGreatDoor
open Go.RowKit
theorem add64z (x y : Int) (hx : 0 ≤ x) (hy : 0 ≤ y) (w : World) : (callFunc 39 #[.int .u64 x, .int .u64 y, .int .u64 0]).run Tryz.prog w =
    .ok (.value (.tuple #[.int .u64 ((x + y) % 18446744073709551616), .int .u64 ((x + y) / 18446744073709551616)])) w := by
  have := add64 x y 0 hx hy (Int.le_refl 0) (by decide) w
  rwa [Int.add_zero] at this
set_option maxHeartbeats 2000000 in
theorem add_calls (a b : Int) (ha : I128 a) (hb : I128 b) (w : World) : Calls Tryz.prog 18 #[wide a, wide b] w fun e w' => e = .returned (.tuple #[wide (wres (a + b)).1, .int .i64 (wres (a + b)).2]) ∧ Upd [] w w' := by
  unfold wide
  have ea := whl a
  have eb := whl b
  have ua := wl_u a
  have ub := wl_u b
  have ia := wh_i ha
  have ib := wh_i hb
  have sa : a < 0 ↔ wh a < 0 := by unfold wh; omega
  have sb : b < 0 ↔ wh b < 0 := by unfold wh; omega
  generalize wh a = h1 at *
  generalize wl a = l1 at *
  generalize wh b = h2 at *
  generalize wl b = l2 at *
  unfold U64 at ua ub
  unfold I64 at ia ib
  unfold I128 at ha hb
  have hwa : IntKind.u64.wrap h1 = h1 % 18446744073709551616 := wrapU
  have hwb : IntKind.u64.wrap h2 = h2 % 18446744073709551616 := wrapU
  have hq : 0 ≤ (l1 + l2) / 18446744073709551616 ∧ (l1 + l2) / 18446744073709551616 ≤ 1 := by omega
  have q1 := add64z l1 l2 ua.1 ub.1
  have q2 := add64 (h1 % 18446744073709551616) (h2 % 18446744073709551616) ((l1 + l2) / 18446744073709551616) (by omega) (by omega) hq.1 hq.2
  obtain ⟨lo, hlo⟩ : ∃ lo, lo = (l1 + l2) % 18446744073709551616 := ⟨_, rfl⟩
  obtain ⟨hi, hhi⟩ : ∃ hi, hi = (h1 % 18446744073709551616 + h2 % 18446744073709551616 + (l1 + l2) / 18446744073709551616) % 18446744073709551616 := ⟨_, rfl⟩
  obtain ⟨bb, hbb⟩ : ∃ bb, bb = (l1 + l2) / 18446744073709551616 := ⟨_, rfl⟩
  rw [← hlo, ← hbb] at q1
  rw [← hhi, ← hbb] at q2
  rw [← hbb] at hhi
  obtain ⟨d, hd⟩ : ∃ d, d = IntKind.i64.wrap hi := ⟨_, rfl⟩
  have hw := hd.symm
  rw [wrapI (by rw [hhi]; unfold U64; omega)] at hd
  have ul : U64 lo := by rw [hlo]; unfold U64; omega
  have key : (I128 (a + b) ∧ d * 18446744073709551616 + lo = a + b) ∨ (a + b < -170141183460469231731687303715884105728 ∧ 0 ≤ d) ∨ (170141183460469231731687303715884105727 < a + b ∧ d < 0) := by
    unfold I128
    split at hd <;> omega
  clear hlo hhi hbb hd hq
  rcases Bool.eq_false_or_eq_true (decide (h1 < 0)) with e1 | e1
  · rcases Bool.eq_false_or_eq_true (decide (h2 < 0)) with e2 | e2
    · rcases Bool.eq_false_or_eq_true (decide (d < 0)) with e3 | e3
      · have kk : I128 (a + b) ∧ d * 18446744073709551616 + lo = a + b := by rcases key with k | k | k <;> first | exact k | (exfalso; simp at e1 e2 e3 ; omega)
        rw [wres_in kk.1]
        show Calls _ _ _ _ (fun e w' => e = .returned (.tuple #[wide (a + b), .int .i64 0]) ∧ Upd [] w w')
        rw [← wide_of kk.2 ul]
        clear kk
        clear key ea eb sa sb ha hb ua ub ia ib
        go_enter Tryz.func18, Tryz.ntmps18
        go_wp2_with (first | simp only [q1] | simp only [q2])
        refine bodyPost_ret (v := .tuple #[.agg #[.int .i64 d, .int .u64 lo], .int .i64 0]) ?_ rfl ⟨rfl, ((((Upd.refl _ _).alloc _).alloc _).alloc _).alloc _⟩
        simp [results, Tryz.f18, go_sem]
      · rw [wres_out (by unfold I128 at *; unfold U64 at ul; rcases key with k | k | k <;> simp at e1 e2 e3 <;> omega)]
        clear key ea eb sa sb ha hb ua ub ia ib
        go_enter Tryz.func18, Tryz.ntmps18
        go_wp2_with (first | simp only [q1] | simp only [q2])
        refine bodyPost_ret (v := .tuple #[wide 0, .int .i64 10]) ?_ rfl ⟨rfl, ((((Upd.refl _ _).alloc _).alloc _).alloc _).alloc _⟩
        rw [wide0]
        simp [results, Tryz.f18, go_sem]
    · have kk : I128 (a + b) ∧ d * 18446744073709551616 + lo = a + b := by rcases key with k | k | k <;> first | exact k | (exfalso; simp at e1 e2 ; omega)
      rw [wres_in kk.1]
      show Calls _ _ _ _ (fun e w' => e = .returned (.tuple #[wide (a + b), .int .i64 0]) ∧ Upd [] w w')
      rw [← wide_of kk.2 ul]
      clear kk
      clear key ea eb sa sb ha hb ua ub ia ib
      go_enter Tryz.func18, Tryz.ntmps18
      go_wp2_with (first | simp only [q1] | simp only [q2])
      refine bodyPost_ret (v := .tuple #[.agg #[.int .i64 d, .int .u64 lo], .int .i64 0]) ?_ rfl ⟨rfl, ((((Upd.refl _ _).alloc _).alloc _).alloc _).alloc _⟩
      simp [results, Tryz.f18, go_sem]
  · rcases Bool.eq_false_or_eq_true (decide (h2 < 0)) with e2 | e2
    · have kk : I128 (a + b) ∧ d * 18446744073709551616 + lo = a + b := by rcases key with k | k | k <;> first | exact k | (exfalso; simp at e1 e2 ; omega)
      rw [wres_in kk.1]
      show Calls _ _ _ _ (fun e w' => e = .returned (.tuple #[wide (a + b), .int .i64 0]) ∧ Upd [] w w')
      rw [← wide_of kk.2 ul]
      clear kk
      clear key ea eb sa sb ha hb ua ub ia ib
      go_enter Tryz.func18, Tryz.ntmps18
      go_wp2_with (first | simp only [q1] | simp only [q2])
      refine bodyPost_ret (v := .tuple #[.agg #[.int .i64 d, .int .u64 lo], .int .i64 0]) ?_ rfl ⟨rfl, ((((Upd.refl _ _).alloc _).alloc _).alloc _).alloc _⟩
      simp [results, Tryz.f18, go_sem]
    · rcases Bool.eq_false_or_eq_true (decide (d < 0)) with e3 | e3
      · rw [wres_out (by unfold I128 at *; unfold U64 at ul; rcases key with k | k | k <;> simp at e1 e2 e3 <;> omega)]
        clear key ea eb sa sb ha hb ua ub ia ib
        go_enter Tryz.func18, Tryz.ntmps18
        go_wp2_with (first | simp only [q1] | simp only [q2])
        refine bodyPost_ret (v := .tuple #[wide 0, .int .i64 10]) ?_ rfl ⟨rfl, ((((Upd.refl _ _).alloc _).alloc _).alloc _).alloc _⟩
        rw [wide0]
        simp [results, Tryz.f18, go_sem]
      · have kk : I128 (a + b) ∧ d * 18446744073709551616 + lo = a + b := by rcases key with k | k | k <;> first | exact k | (exfalso; simp at e1 e2 e3 ; omega)
        rw [wres_in kk.1]
        show Calls _ _ _ _ (fun e w' => e = .returned (.tuple #[wide (a + b), .int .i64 0]) ∧ Upd [] w w')
        rw [← wide_of kk.2 ul]
        clear kk
        clear key ea eb sa sb ha hb ua ub ia ib
        go_enter Tryz.func18, Tryz.ntmps18
        go_wp2_with (first | simp only [q1] | simp only [q2])
        refine bodyPost_ret (v := .tuple #[.agg #[.int .i64 d, .int .u64 lo], .int .i64 0]) ?_ rfl ⟨rfl, ((((Upd.refl _ _).alloc _).alloc _).alloc _).alloc _⟩
        simp [results, Tryz.f18, go_sem]
end Go.Proofs.YthbjpoiolmlpmaaGreatDoor
namespace Go.Proofs.YthbjpoiolmlpmaaGreatDoor
open Go.RowKit
theorem mask32 (x : Int) (h : U64 x) : bits .and .u64 x 4294967295 = x % 4294967296 := by
  unfold U64 at h
  exact bits_mask .u64 64 (by decide) (fun n h0 h1 => by rw [wrapU]; omega) 32 (by decide) x h.1 (by omega)
theorem prod_le {a b A B : Int} (h0 : 0 ≤ a) (h1 : a ≤ A) (h2 : 0 ≤ b) (h3 : b ≤ B) : 0 ≤ a * b ∧ a * b ≤ A * B :=
  ⟨Int.mul_nonneg h0 h2, Int.mul_le_mul h1 h3 h2 (by omega)⟩
theorem tup2 {k k' : IntKind} {a b c d : Int} (h : a = c) (h' : b = d) : Ending.returned (.tuple #[.int k a, .int k' b]) = .returned (.tuple #[.int k c, .int k' d]) := by rw [h, h']
set_option maxHeartbeats 1000000 in
theorem mul64_calls (x y : Int) (hx : U64 x) (hy : U64 y) (w : World) : Calls Tryz.prog 73 #[.int .u64 x, .int .u64 y] w fun e w' => e = .returned (.tuple #[.int .u64 (x * y / 18446744073709551616), .int .u64 (x * y % 18446744073709551616)]) ∧ w' = w := by
  have e1 := mask32 x hx
  have e2 := mask32 y hy
  have HX := Lib.hid hx
  have HY := Lib.hid hy
  clear hx hy
  go_enter Tryz.func73, Tryz.ntmps73
  go_wp2
  go_ret2
  have hx := HX.out
  have hy := HY.out
  unfold U64 at hx hy
  refine ⟨?_, rfl⟩
  have hxy : x * y = (x / 4294967296) * (y / 4294967296) * 18446744073709551616 + ((x / 4294967296) * (y % 4294967296) + (x % 4294967296) * (y / 4294967296)) * 4294967296 + (x % 4294967296) * (y % 4294967296) := by
    have h1 : x = (x / 4294967296) * 4294967296 + x % 4294967296 := by omega
    have h2 : y = (y / 4294967296) * 4294967296 + y % 4294967296 := by omega
    generalize x / 4294967296 = x1 at *
    generalize x % 4294967296 = x0 at *
    generalize y / 4294967296 = y1 at *
    generalize y % 4294967296 = y0 at *
    subst h1
    subst h2
    grind
  have b11 := prod_le (a := x / 4294967296) (b := y / 4294967296) (A := 4294967295) (B := 4294967295) (by omega) (by omega) (by omega) (by omega)
  have b10 := prod_le (a := x / 4294967296) (b := y % 4294967296) (A := 4294967295) (B := 4294967295) (by omega) (by omega) (by omega) (by omega)
  have b01 := prod_le (a := x % 4294967296) (b := y / 4294967296) (A := 4294967295) (B := 4294967295) (by omega) (by omega) (by omega) (by omega)
  have b00 := prod_le (a := x % 4294967296) (b := y % 4294967296) (A := 4294967295) (B := 4294967295) (by omega) (by omega) (by omega) (by omega)
  simp only [wrapU] at *
  rw [mask32 _ (by unfold U64; omega)]
  generalize x * y = p at *
  generalize x / 4294967296 * (y / 4294967296) = p11 at *
  generalize x / 4294967296 * (y % 4294967296) = p10 at *
  generalize x % 4294967296 * (y / 4294967296) = p01 at *
  generalize x % 4294967296 * (y % 4294967296) = p00 at *
  exact tup2 (by omega) (by omega)
end Go.Proofs.YthbjpoiolmlpmaaGreatDoor
namespace Go.Proofs.YthbjpoiolmlpmaaGreatDoor
open Go.RowKit
/-- Behind the bits above k: the quotient's part. -/
def dq (M N k : Nat) : Nat := M / 2 ^ k / N * 2 ^ k
def dr (M N k : Nat) : Nat := M / 2 ^ k % N
theorem div_bit (M k : Nat) : M / 2 ^ k = 2 * (M / 2 ^ (k + 1)) + M / 2 ^ k % 2 := by
  rw [Nat.pow_succ, ← Nat.div_div_eq_div_mul]
  omega
theorem div_step (T b N : Nat) (hN : 0 < N) (hb : b < 2) : (2 * T + b) / N = 2 * (T / N) + (if N ≤ 2 * (T % N) + b then 1 else 0) ∧ (2 * T + b) % N = 2 * (T % N) + b - (if N ≤ 2 * (T % N) + b then N else 0) := by
  have h1 := Nat.div_add_mod T N
  have h2 := Nat.mod_lt T hN
  generalize T / N = q at *
  generalize T % N = r at *
  subst h1
  have key : 2 * (N * q + r) + b = N * (2 * q) + (2 * r + b) := by grind
  rw [key]
  split
  · rename_i h
    have e : N * (2 * q) + (2 * r + b) = N * (2 * q + 1) + (2 * r + b - N) := by
      have : N * (2 * q + 1) = N * (2 * q) + N := by grind
      omega
    rw [e, Nat.mul_add_div hN, Nat.mul_add_mod, Nat.div_eq_of_lt (by omega), Nat.mod_eq_of_lt (by omega)]
    exact ⟨rfl, rfl⟩
  · rw [Nat.mul_add_div hN, Nat.mul_add_mod, Nat.div_eq_of_lt (by omega), Nat.mod_eq_of_lt (by omega)]
    exact ⟨rfl, rfl⟩
theorem dr_step (M N k : Nat) (hN : 0 < N) : dr M N k = 2 * dr M N (k + 1) + M / 2 ^ k % 2 - (if N ≤ 2 * dr M N (k + 1) + M / 2 ^ k % 2 then N else 0) := by
  unfold dr
  have := (div_step (M / 2 ^ (k + 1)) (M / 2 ^ k % 2) N hN (Nat.mod_lt _ (by decide))).2
  rw [← div_bit] at this
  exact this
theorem dq_step (M N k : Nat) (hN : 0 < N) : dq M N k = dq M N (k + 1) + (if N ≤ 2 * dr M N (k + 1) + M / 2 ^ k % 2 then 2 ^ k else 0) := by
  unfold dq dr
  have := (div_step (M / 2 ^ (k + 1)) (M / 2 ^ k % 2) N hN (Nat.mod_lt _ (by decide))).1
  rw [← div_bit] at this
  rw [this, Nat.pow_succ]
  split <;> grind
theorem dq_mod (M N k : Nat) : dq M N k % 2 ^ k = 0 := by unfold dq; exact Nat.mul_mod_left _ _
theorem dq_lt {M N k : Nat} (hM : M < 2 ^ 128) : dq M N k < 2 ^ 128 := by
  unfold dq
  have h1 : M / 2 ^ k / N * 2 ^ k ≤ M / 2 ^ k * 2 ^ k := Nat.mul_le_mul_right _ (Nat.div_le_self _ _)
  have h2 := Nat.div_mul_le_self M (2 ^ k)
  omega
theorem d_top {M N : Nat} (hM : M < 2 ^ 128) : dq M N 128 = 0 ∧ dr M N 128 = 0 := by
  unfold dq dr
  rw [Nat.div_eq_of_lt hM]
  simp
theorem d_end (M N : Nat) : dq M N 0 = M / N ∧ dr M N 0 = M % N := by simp [dq, dr]
/-- '|' of a number below 2^i onto one that is a multiple of it. -/
theorem orU (i : Nat) (a b : Nat) (ha : a < 18446744073709551616) (hm : a % 2 ^ i = 0) (hb : b < 2 ^ i) (hi : b < 18446744073709551616) : bits .or .u64 (a : Int) (b : Int) = ((a + b : Nat) : Int) := by
  rw [bits_or_u64_nat a b ha hi]
  have e : a = 2 ^ i * (a / 2 ^ i) := by
    have := Nat.div_add_mod a (2 ^ i)
    omega
  congr 1
  rw [e]
  exact (Nat.two_pow_add_eq_or_of_lt hb _).symm
theorem andOne (x : Int) (h : U64 x) : bits .and .u64 x 1 = x % 2 := by
  unfold U64 at h
  exact bits_mask .u64 64 (by decide) (fun n h0 h1 => by rw [wrapU]; omega) 1 (by decide) x h.1 (by omega)
theorem wl_nat (x : Nat) : wl (x : Int) = ((x % 18446744073709551616 : Nat) : Int) := by unfold wl; omega
theorem wh_nat (x : Nat) : wh (x : Int) = ((x / 18446744073709551616 : Nat) : Int) := by unfold wh; omega
/-- The remainder one bit on, in limbs. -/
theorem r_shift (r b : Nat) (hr : r < 2 ^ 128) (hb : b < 2) :
    bits .or .u64 (IntKind.u64.wrap (wl (r : Int) * 2)) (b : Int) = wl (((2 * r + b) % 2 ^ 128 : Nat) : Int) ∧
    bits .or .u64 (IntKind.u64.wrap (wh (r : Int) * 2)) (wl (r : Int) / 9223372036854775808) = wh (((2 * r + b) % 2 ^ 128 : Nat) : Int) := by
  have e1 : IntKind.u64.wrap (wl (r : Int) * 2) = ((2 * r % 18446744073709551616 : Nat) : Int) := by rw [wrapU, wl_nat]; omega
  have e2 : IntKind.u64.wrap (wh (r : Int) * 2) = ((r / 18446744073709551616 * 2 % 18446744073709551616 : Nat) : Int) := by rw [wrapU, wh_nat]; omega
  have e3 : wl (r : Int) / 9223372036854775808 = ((r % 18446744073709551616 / 9223372036854775808 : Nat) : Int) := by rw [wl_nat]; omega
  rw [e1, e2, e3, orU 1 _ b (by omega) (by omega) (by omega) (by omega), orU 1 _ _ (by omega) (by omega) (by omega) (by omega), wl_nat, wh_nat]
  constructor <;> congr 1 <;> omega
theorem bit_hi (M j : Nat) (h : 64 ≤ j) : wh (M : Int) / 2 ^ (j % 64) % 2 = ((M / 2 ^ j % 2 : Nat) : Int) ∨ 128 ≤ j := by
  by_cases h2 : 128 ≤ j
  · exact .inr h2
  · refine .inl ?_
    obtain ⟨t, rfl⟩ : ∃ t, j = 64 + t := ⟨j - 64, by omega⟩
    have ht : (64 + t) % 64 = t := by omega
    rw [ht, wh_nat, Nat.pow_add, ← Nat.div_div_eq_div_mul]
    norm_cast
theorem bit_lo (M j : Nat) (h : j < 64) : wl (M : Int) / 2 ^ (j % 64) % 2 = ((M / 2 ^ j % 2 : Nat) : Int) := by
  rw [Nat.mod_eq_of_lt h, wl_nat]
  have e : M % 18446744073709551616 / 2 ^ j % 2 = M / 2 ^ j % 2 := by
    have h1 := Nat.testBit_mod_two_pow M 64 j
    rw [Nat.testBit_eq_decide_div_mod_eq, Nat.testBit_eq_decide_div_mod_eq] at h1
    simp [h] at h1
    have a1 := Nat.mod_lt (M % 18446744073709551616 / 2 ^ j) (show 0 < 2 by decide)
    have a2 := Nat.mod_lt (M / 2 ^ j) (show 0 < 2 by decide)
    omega
  rw [← e]
  norm_cast
/-- Bit j set in the quotient, in limbs. -/
theorem q_hi (q j : Nat) (h : 64 ≤ j) (h2 : j < 128) (hq : q < 2 ^ 128) (hm : q % 2 ^ (j + 1) = 0) :
    bits .or .u64 (wh (q : Int)) (((2 ^ (j % 64) : Nat)) : Int) = wh ((q + 2 ^ j : Nat) : Int) ∧ wl ((q + 2 ^ j : Nat) : Int) = wl (q : Int) := by
  obtain ⟨t, rfl⟩ : ∃ t, j = 64 + t := ⟨j - 64, by omega⟩
  have ht : (64 + t) % 64 = t := by omega
  have hp : 2 ^ (64 + t) = 18446744073709551616 * 2 ^ t := by rw [Nat.pow_add]
  have hlt : 2 ^ t < 18446744073709551616 := by
    have : 2 ^ t < 2 ^ 64 := Nat.pow_lt_pow_right (by decide) (by omega)
    omega
  have hm' : q / 18446744073709551616 % 2 ^ (t + 1) = 0 := by
    obtain ⟨c, hc⟩ := Nat.dvd_of_mod_eq_zero hm
    rw [hc, show 64 + t + 1 = 64 + (t + 1) by omega, Nat.pow_add, Nat.mul_assoc, Nat.mul_div_cancel_left _ (by decide : 0 < 2 ^ 64)]
    exact Nat.mul_mod_right _ _
  have hs : 2 ^ t < 2 ^ (t + 1) := Nat.pow_lt_pow_right (by decide) (by omega)
  rw [ht, hp, wh_nat, orU (t + 1) _ _ (by omega) hm' hs hlt, wh_nat, wl_nat, wl_nat]
  constructor <;> congr 1 <;> omega
theorem q_lo (q j : Nat) (h : j < 64) (hq : q < 2 ^ 128) (hm : q % 2 ^ (j + 1) = 0) :
    bits .or .u64 (wl (q : Int)) (((2 ^ (j % 64) : Nat)) : Int) = wl ((q + 2 ^ j : Nat) : Int) ∧ wh ((q + 2 ^ j : Nat) : Int) = wh (q : Int) := by
  have hlt : 2 ^ j < 18446744073709551616 := by
    have : 2 ^ j < 2 ^ 64 := Nat.pow_lt_pow_right (by decide) h
    omega
  have hm' : q % 18446744073709551616 % 2 ^ (j + 1) = 0 := by
    have hd : 2 ^ (j + 1) ∣ 18446744073709551616 := by
      have : 2 ^ (j + 1) ∣ 2 ^ 64 := Nat.pow_dvd_pow 2 (by omega)
      exact this
    rw [Nat.mod_mod_of_dvd _ hd]
    exact hm
  have hs : 2 ^ j < 2 ^ (j + 1) := Nat.pow_lt_pow_right (by decide) (by omega)
  have hfit : q % 18446744073709551616 + 2 ^ j < 18446744073709551616 := by
    have hd : 2 ^ (j + 1) ∣ 18446744073709551616 := by
      have : 2 ^ (j + 1) ∣ 2 ^ 64 := Nat.pow_dvd_pow 2 (by omega)
      exact this
    obtain ⟨c, hc⟩ := hd
    obtain ⟨d, hd'⟩ := Nat.dvd_of_mod_eq_zero hm'
    have hl := Nat.mod_lt q (show 0 < 18446744073709551616 by decide)
    rw [hd', hc] at hl
    have hdc : d < c := Nat.lt_of_mul_lt_mul_left hl
    have : 2 ^ (j + 1) * (d + 1) ≤ 2 ^ (j + 1) * c := Nat.mul_le_mul_left _ hdc
    rw [Nat.mul_add] at this
    omega
  rw [Nat.mod_eq_of_lt h, wl_nat, orU (j + 1) _ _ (by omega) hm' hs hlt, wl_nat, wh_nat, wh_nat]
  constructor <;> congr 1 <;> omega
theorem u_hi (M t : Nat) (hM : M < 2 ^ 128) : U64 (wh (M : Int) / 2 ^ t) := by
  have e : wh (M : Int) / 2 ^ t = ((M / 18446744073709551616 / 2 ^ t : Nat) : Int) := by rw [wh_nat]; norm_cast
  have h := Nat.div_le_self (M / 18446744073709551616) (2 ^ t)
  rw [e]
  generalize M / 18446744073709551616 / 2 ^ t = y at *
  unfold U64
  omega
theorem u_lo (M t : Nat) : U64 (wl (M : Int) / 2 ^ t) := by
  have e : wl (M : Int) / 2 ^ t = ((M % 18446744073709551616 / 2 ^ t : Nat) : Int) := by rw [wl_nat]; norm_cast
  have h := Nat.div_le_self (M % 18446744073709551616) (2 ^ t)
  rw [e]
  generalize M % 18446744073709551616 / 2 ^ t = y at *
  unfold U64
  omega
end Go.Proofs.YthbjpoiolmlpmaaGreatDoor
