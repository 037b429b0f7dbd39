/- Package wide: numbers of 128 bits. -/
import Derived.Test.YthbjpoiolmlpmaaGreatDoorKern
import Derived.Test.YthbjpoiolmlpmaaGreatDoorProg
import Derived.Laws.Externs
import Derived.Shelf.Spec.BitsCarry
set_option linter.unusedVariables false
set_option linter.unusedSimpArgs false
namespace Go.Proofs.YthbjpoiolmlpmaaGreatDoor
open Go.RowKit

def wh (z : Int) : Int := z / 18446744073709551616
def wl (z : Int) : Int := z % 18446744073709551616
/-- A wide number, as a value. -/
abbrev wide (z : Int) : Value := .agg #[.int .i64 (wh z), .int .u64 (wl z)]
def I64 (x : Int) : Prop := -9223372036854775808 ≤ x ∧ x ≤ 9223372036854775807
def U64 (x : Int) : Prop := 0 ≤ x ∧ x ≤ 18446744073709551615
def I128 (x : Int) : Prop := -170141183460469231731687303715884105728 ≤ x ∧ x ≤ 170141183460469231731687303715884105727
theorem wl_u (z : Int) : U64 (wl z) := by unfold wl U64; omega
theorem wh_i {z : Int} (h : I128 z) : I64 (wh z) := by unfold wh I64; unfold I128 at h; omega
theorem whl (z : Int) : wh z * 18446744073709551616 + wl z = z := by unfold wh wl; omega
theorem wh_mk {h l : Int} (hl : U64 l) : wh (h * 18446744073709551616 + l) = h := by unfold wh; unfold U64 at hl; omega
theorem wl_mk {h l : Int} (hl : U64 l) : wl (h * 18446744073709551616 + l) = l := by unfold wl; unfold U64 at hl; omega

theorem add64 (x y c : Int) (hx : 0 ≤ x) (hy : 0 ≤ y) (hc0 : 0 ≤ c) (hc : c ≤ 1) (w : World) : (callFunc 39 #[.int .u64 x, .int .u64 y, .int .u64 c]).run Tryz.prog w =
    .ok (.value (.tuple #[.int .u64 ((x + y + c) % 18446744073709551616), .int .u64 ((x + y + c) / 18446744073709551616)])) w := by
  rw [run_callFunc_extern Tryz.func39 (by kernel_rfl) (by kernel_rfl) (by kernel_rfl) (e := add64Entry) (by kernel_rfl), run_add64 x y c hx hy hc0 hc]
  rfl
theorem sub64 (x y b : Int) (hx : 0 ≤ x) (hy : 0 ≤ y) (hy' : y ≤ 18446744073709551615) (hb0 : 0 ≤ b) (hb : b ≤ 1) (w : World) : (callFunc 109 #[.int .u64 x, .int .u64 y, .int .u64 b]).run Tryz.prog w =
    .ok (.value (.tuple #[.int .u64 ((x - y - b) % 18446744073709551616), .int .u64 (if x < y + b then 1 else 0)])) w := by
  obtain ⟨x, rfl⟩ := Int.eq_ofNat_of_zero_le hx
  obtain ⟨y, rfl⟩ := Int.eq_ofNat_of_zero_le hy
  obtain ⟨b, rfl⟩ := Int.eq_ofNat_of_zero_le hb0
  have e1 : (((x + 18446744073709551616 - y - b) % 18446744073709551616 : Nat) : Int) = ((x : Int) - y - b) % 18446744073709551616 := by omega
  have e2 : ((if x < y + b then 1 else 0 : Nat) : Int) = if (x : Int) < y + b then 1 else 0 := by split <;> split <;> omega
  rw [← e1, ← e2]
  rw [run_callFunc_extern Tryz.func109 (by kernel_rfl) (by kernel_rfl) (by kernel_rfl) (e := sub64Entry) (by kernel_rfl), run_sub64 x y b (by omega)]
  rfl

theorem of_calls (n : Int) (hn : I64 n) (w : World) : Calls Tryz.prog 19 #[.int .i64 n] w fun e w' => e = .returned (wide n) ∧ Upd [] w w' := by
  unfold I64 at hn
  have e1 : n / 9223372036854775808 = wh n := by unfold wh; omega
  have e2 : IntKind.u64.wrap n = wl n := by simp [IntKind.wrap, IntKind.bits, IntKind.signed, wl]
  go_enter Tryz.func19, Tryz.ntmps19
  go_wp2
  refine bodyPost_ret (v := wide n) ?_ rfl ⟨rfl, (Upd.refl _ _).alloc _⟩
  simp [results, Tryz.f19, go_sem]
def cmpW (a b : Int) : Int := if a < b then -1 else if a = b then 0 else 1
set_option maxHeartbeats 1000000 in
theorem cmp_calls (a b : Int) (w : World) : Calls Tryz.prog 30 #[wide a, wide b] w fun e w' => e = .returned (.int .i64 (cmpW a b)) ∧ Upd [] w w' := by
  unfold wide
  generalize hr : cmpW a b = r
  have ea := whl a
  have eb := whl b
  have ua := wl_u a
  have ub := wl_u b
  unfold cmpW at hr
  unfold U64 at ua ub
  generalize wh a = h1 at *
  generalize wl a = l1 at *
  generalize wh b = h2 at *
  generalize wl b = l2 at *
  by_cases c1 : h1 = h2
  · subst c1
    by_cases c2 : l1 = l2
    · subst c2
      obtain rfl : 0 = r := by rw [← hr, if_neg (by omega), if_pos (by omega)]
      clear hr ea eb ua ub
      go_enter Tryz.func30, Tryz.ntmps30
      go_wp2
      go_ret
      exact ⟨rfl, ((Upd.refl _ _).alloc _).alloc _⟩
    · have e2 : (l1 == l2) = false := by simpa using c2
      by_cases c3 : l1 < l2
      · obtain rfl : -1 = r := by rw [← hr, if_pos (by omega)]
        clear hr ea eb ua ub c2
        go_enter Tryz.func30, Tryz.ntmps30
        go_wp2
        go_ret
        exact ⟨rfl, ((Upd.refl _ _).alloc _).alloc _⟩
      · obtain rfl : 1 = r := by rw [← hr, if_neg (by omega), if_neg (by omega)]
        have e3 : decide (l1 < l2) = false := by simpa using c3
        clear hr ea eb ua ub c2 c3
        go_enter Tryz.func30, Tryz.ntmps30
        go_wp2
        go_ret
        exact ⟨rfl, ((Upd.refl _ _).alloc _).alloc _⟩
  · have e1 : (h1 == h2) = false := by simpa using c1
    by_cases c3 : h1 < h2
    · obtain rfl : -1 = r := by rw [← hr, if_pos (by omega)]
      clear hr ea eb ua ub c1
      go_enter Tryz.func30, Tryz.ntmps30
      go_wp2
      go_ret
      exact ⟨rfl, ((Upd.refl _ _).alloc _).alloc _⟩
    · obtain rfl : 1 = r := by rw [← hr, if_neg (by omega), if_neg (by omega)]
      have e3 : decide (h1 < h2) = false := by simpa using c3
      clear hr ea eb ua ub c1 c3
      go_enter Tryz.func30, Tryz.ntmps30
      go_wp2
      go_ret
      exact ⟨rfl, ((Upd.refl _ _).alloc _).alloc _⟩

/-- The borrow, under a name. -/
def bor (x y : Int) : Int := if x < y then 1 else 0
theorem bor_le (x y : Int) : 0 ≤ bor x y ∧ bor x y ≤ 1 := by unfold bor; split <;> omega
theorem sub64b (x y b : Int) (hx : 0 ≤ x) (hy : 0 ≤ y) (hy' : y ≤ 18446744073709551615) (hb0 : 0 ≤ b) (hb : b ≤ 1) (w : World) : (callFunc 109 #[.int .u64 x, .int .u64 y, .int .u64 b]).run Tryz.prog w =
    .ok (.value (.tuple #[.int .u64 ((x - y - b) % 18446744073709551616), .int .u64 (bor x (y + b))])) w := sub64 x y b hx hy hy' hb0 hb w
theorem sub64z (x y : Int) (hx : 0 ≤ x) (hy : 0 ≤ y) (hy' : y ≤ 18446744073709551615) (w : World) : (callFunc 109 #[.int .u64 x, .int .u64 y, .int .u64 0]).run Tryz.prog w =
    .ok (.value (.tuple #[.int .u64 ((x - y) % 18446744073709551616), .int .u64 (bor x y)])) w := by
  have := sub64b x y 0 hx hy hy' (Int.le_refl 0) (by decide) w
  rwa [Int.sub_zero, Int.add_zero] at this

set_option maxHeartbeats 1000000 in
/-- Without the sign, as limbs. -/
theorem amount_calls (a : Int) (ha : I128 a) (w : World) : Calls Tryz.prog 72 #[wide a] w fun e w' => e = .returned (.agg #[.int .u64 (wl a.natAbs), .int .u64 (wh a.natAbs)]) ∧ Upd [] w w' := by
  unfold wide
  have ea := whl a
  have ua := wl_u a
  have ia := wh_i ha
  have k1 : a < 0 → wl a.natAbs = (-wl a) % 18446744073709551616 := fun h => by unfold wl; omega
  have k2 : a < 0 → wh a.natAbs = (-((wh a) % 18446744073709551616) - bor 0 (wl a)) % 18446744073709551616 := fun h => by unfold wh bor; unfold wl at *; unfold I128 at ha; split <;> omega
  have k3 : 0 ≤ a → wl a.natAbs = wl a := fun h => by unfold wl; omega
  have k4 : 0 ≤ a → wh a.natAbs = wh a % 18446744073709551616 := fun h => by unfold wh; unfold I128 at ha; omega
  have hs : a < 0 ↔ wh a < 0 := by unfold wh; omega
  generalize wl a.natAbs = x at *
  generalize wh a.natAbs = y at *
  generalize wh a = h1 at *
  generalize wl a = l1 at *
  unfold U64 at ua
  unfold I64 at ia
  have hw : IntKind.u64.wrap h1 = h1 % 18446744073709551616 := by simp [IntKind.wrap, IntKind.bits, IntKind.signed]
  by_cases c : h1 < 0
  · have hn := hs.2 c
    rw [k1 hn, k2 hn]
    have e1 : decide (0 ≤ h1) = false := by simpa using c
    have hq := bor_le 0 l1
    have q1 := sub64z 0 l1 (Int.le_refl _) ua.1 ua.2
    have q2 := sub64b 0 (h1 % 18446744073709551616) (bor 0 l1) (Int.le_refl _) (by omega) (by omega) hq.1 hq.2
    clear k1 k2 k3 k4 hs ea hn hq c ha
    generalize bor 0 l1 = bb at *
    go_enter Tryz.func72, Tryz.ntmps72
    go_wp2_with (first | simp only [q1] | simp only [hw, q2])
    refine bodyPost_ret (v := .agg #[.int .u64 (-l1 % 18446744073709551616), .int .u64 ((-(h1 % 18446744073709551616) - bb) % 18446744073709551616)]) ?_ rfl ⟨rfl, ((Upd.refl _ _).alloc _).alloc _⟩
    simp [results, Tryz.f72, go_sem]
  · have hn : 0 ≤ a := by omega
    rw [k3 hn, k4 hn]
    have e1 : decide (0 ≤ h1) = true := by simp; omega
    clear k1 k2 k3 k4 hs ea hn ha
    go_enter Tryz.func72, Tryz.ntmps72
    go_wp2_with (simp only [hw])
    refine bodyPost_ret (v := .agg #[.int .u64 l1, .int .u64 (h1 % 18446744073709551616)]) ?_ rfl ⟨rfl, ((Upd.refl _ _).alloc _).alloc _⟩
    simp [results, Tryz.f72, go_sem]

/-- A result: the number, or 10: it is none of 128 bits. -/
def wres (z : Int) : Int × Int := if -170141183460469231731687303715884105728 ≤ z ∧ z ≤ 170141183460469231731687303715884105727 then (z, 0) else (0, 10)
theorem wres_in {z : Int} (h : I128 z) : wres z = (z, 0) := by unfold wres; exact if_pos h
theorem wres_out {z : Int} (h : ¬ I128 z) : wres z = (0, 10) := by unfold wres; exact if_neg h
theorem wide0 : wide 0 = .agg #[.int .i64 0, .int .u64 0] := rfl
theorem wide_of {h l z : Int} (e : h * 18446744073709551616 + l = z) (hl : U64 l) : Value.agg #[.int .i64 h, .int .u64 l] = wide z := by
  subst e
  unfold wide
  rw [wh_mk hl, wl_mk hl]
theorem wrapU {x : Int} : IntKind.u64.wrap x = x % 18446744073709551616 := by simp [IntKind.wrap, IntKind.bits, IntKind.signed]
theorem wrapI {x : Int} (h : U64 x) : IntKind.i64.wrap x = if x < 9223372036854775808 then x else x - 18446744073709551616 := by
  unfold U64 at h
  simp [IntKind.wrap, IntKind.bits, IntKind.signed]
  split <;> split <;> omega

set_option maxHeartbeats 2000000 in
/-- An amount with a sign. -/
theorem signed_calls (M : Int) (below : Bool) (h0 : 0 ≤ M) (h1 : M ≤ 340282366920938463463374607431768211455) (w : World) :
    Calls Tryz.prog 74 #[.agg #[.int .u64 (wl M), .int .u64 (wh M)], .bool below] w fun e w' => e = .returned (.tuple #[wide (wres (if below then -M else M)).1, .int .i64 (wres (if below then -M else M)).2]) ∧ Upd [] w w' := by
  have ea := whl M
  have ux := wl_u M
  have uy : U64 (wh M) := by unfold wh U64; omega
  have uy' := uy
  generalize wh M = y at *
  generalize wl M = x at *
  unfold U64 at ux uy
  cases below with
  | true =>
    simp only [if_true]
    have q1 := sub64z 0 x (Int.le_refl _) ux.1 ux.2
    have hq := bor_le 0 x
    have q2 := sub64b 0 y (bor 0 x) (Int.le_refl _) uy.1 uy.2 hq.1 hq.2
    obtain ⟨lo, hlo⟩ : ∃ lo, lo = (0 - x) % 18446744073709551616 := ⟨_, rfl⟩
    obtain ⟨hi, hhi⟩ : ∃ hi, hi = (0 - y - bor 0 x) % 18446744073709551616 := ⟨_, rfl⟩
    rw [← hlo] at q1
    rw [← hhi] at q2
    obtain ⟨d, hd⟩ : ∃ d, d = IntKind.i64.wrap hi := ⟨_, rfl⟩
    have hw := hd.symm
    rw [wrapI (by rw [hhi]; unfold U64; omega)] at hd
    unfold bor at hhi
    have HLO := Lib.hid hlo
    have HHI := Lib.hid hhi
    have HD := Lib.hid hd
    clear hlo hhi hd hq
    obtain ⟨bb, hb⟩ : ∃ bb, bb = bor 0 x := ⟨_, rfl⟩
    rw [← hb] at q1 q2
    clear hb
    by_cases c1 : 9223372036854775808 < y
    · rw [wres_out (by unfold I128; omega)]
      clear ea
      go_enter Tryz.func74, Tryz.ntmps74
      go_wp2_with (first | simp only [q1] | simp only [q2])
      refine bodyPost_ret (v := .tuple #[wide 0, .int .i64 10]) ?_ rfl ⟨rfl, ((Upd.refl _ _).alloc _).alloc _⟩
      rw [wide0]
      simp [results, Tryz.f74, go_sem]
    · have e1 : decide (9223372036854775808 < y) = false := by simpa using c1
      by_cases c2 : y = 9223372036854775808
      · by_cases c3 : 0 < x
        · rw [wres_out (by unfold I128; omega)]
          have e2 : (y == 9223372036854775808) = true := by simpa using c2
          have e3 : decide (0 < x) = true := by simpa using c3
          clear ea c2 c3 c1
          go_enter Tryz.func74, Tryz.ntmps74
          go_wp2_with (first | simp only [q1] | simp only [q2])
          refine bodyPost_ret (v := .tuple #[wide 0, .int .i64 10]) ?_ rfl ⟨rfl, ((Upd.refl _ _).alloc _).alloc _⟩
          rw [wide0]
          simp [results, Tryz.f74, go_sem]
        · rw [wres_in (by unfold I128; omega), ← wide_of (h := d) (l := lo) (by rw [HD.out, HHI.out, HLO.out]; split <;> omega) (by rw [HLO.out]; unfold U64; omega)]
          have e2 : (y == 9223372036854775808) = true := by simpa using c2
          have e3 : decide (0 < x) = false := by simpa using c3
          clear ea c2 c3 c1
          go_enter Tryz.func74, Tryz.ntmps74
          go_wp2_with (first | simp only [q1] | simp only [q2])
          refine bodyPost_ret (v := .tuple #[.agg #[.int .i64 d, .int .u64 lo], .int .i64 0]) ?_ rfl ⟨rfl, ((Upd.refl _ _).alloc _).alloc _⟩
          simp [results, Tryz.f74, go_sem]
      · rw [wres_in (by unfold I128; omega), ← wide_of (h := d) (l := lo) (by rw [HD.out, HHI.out, HLO.out]; split <;> split <;> omega) (by rw [HLO.out]; unfold U64; omega)]
        have e2 : (y == 9223372036854775808) = false := by simpa using c2
        clear ea c2 c1
        go_enter Tryz.func74, Tryz.ntmps74
        go_wp2_with (first | simp only [q1] | simp only [q2])
        refine bodyPost_ret (v := .tuple #[.agg #[.int .i64 d, .int .u64 lo], .int .i64 0]) ?_ rfl ⟨rfl, ((Upd.refl _ _).alloc _).alloc _⟩
        simp [results, Tryz.f74, go_sem]
  | false =>
    simp only [Bool.false_eq_true, if_false]
    by_cases c1 : 9223372036854775808 ≤ y
    · rw [wres_out (by unfold I128; omega)]
      clear ea
      go_enter Tryz.func74, Tryz.ntmps74
      go_wp2
      refine bodyPost_ret (v := .tuple #[wide 0, .int .i64 10]) ?_ rfl ⟨rfl, ((Upd.refl _ _).alloc _).alloc _⟩
      rw [wide0]
      simp [results, Tryz.f74, go_sem]
    · have e1 : decide (9223372036854775808 ≤ y) = false := by simpa using c1
      rw [wres_in (by unfold I128; omega), ← wide_of ea (by unfold U64; omega)]
      have hw : IntKind.i64.wrap y = y := by rw [wrapI uy', if_pos (by omega)]
      clear ea
      go_enter Tryz.func74, Tryz.ntmps74
      go_wp2
      refine bodyPost_ret (v := .tuple #[.agg #[.int .i64 y, .int .u64 x], .int .i64 0]) ?_ rfl ⟨rfl, ((Upd.refl _ _).alloc _).alloc _⟩
      simp [results, Tryz.f74, go_sem]
end Go.Proofs.YthbjpoiolmlpmaaGreatDoor
