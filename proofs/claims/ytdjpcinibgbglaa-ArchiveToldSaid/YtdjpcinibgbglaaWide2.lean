/- Package wide: Sub, Neg, Abs, Add. -/
import Derived.Test.YtdjpcinibgbglaaWide
set_option linter.unusedVariables false
set_option linter.unusedSimpArgs false
namespace Go.Proofs.Ytdjpcinibgbglaa
open Go.RowKit
theorem add64z (x y : Int) (hx : 0 ≤ x) (hy : 0 ≤ y) (w : World) : (callFunc 48 #[.int .u64 x, .int .u64 y, .int .u64 0]).run Try.prog w =
    .ok (.value (.tuple #[.int .u64 ((x + y) % 18446744073709551616), .int .u64 ((x + y) / 18446744073709551616)])) w := by
  have := add64 x y 0 hx hy (Int.le_refl 0) (by decide) w
  rwa [Int.add_zero] at this
set_option maxHeartbeats 2000000 in
theorem sub_calls (a b : Int) (ha : I128 a) (hb : I128 b) (w : World) : Calls Try.prog 103 #[wide a, wide b] w fun e w' => e = .returned (.tuple #[wide (wres (a - b)).1, .int .i64 (wres (a - b)).2]) ∧ Upd [] w w' := by
  unfold wide
  have ea := whl a
  have eb := whl b
  have ua := wl_u a
  have ub := wl_u b
  have ia := wh_i ha
  have ib := wh_i hb
  have sa : a < 0 ↔ wh a < 0 := by unfold wh; omega
  have sb : b < 0 ↔ wh b < 0 := by unfold wh; omega
  generalize wh a = h1 at *
  generalize wl a = l1 at *
  generalize wh b = h2 at *
  generalize wl b = l2 at *
  unfold U64 at ua ub
  unfold I64 at ia ib
  unfold I128 at ha hb
  have hwa : IntKind.u64.wrap h1 = h1 % 18446744073709551616 := wrapU
  have hwb : IntKind.u64.wrap h2 = h2 % 18446744073709551616 := wrapU
  have hq := bor_le l1 l2
  have q1 := sub64z l1 l2 ua.1 ub.1 ub.2
  have q2 := sub64b (h1 % 18446744073709551616) (h2 % 18446744073709551616) (bor l1 l2) (by omega) (by omega) (by omega) hq.1 hq.2
  obtain ⟨lo, hlo⟩ : ∃ lo, lo = (l1 - l2) % 18446744073709551616 := ⟨_, rfl⟩
  obtain ⟨hi, hhi⟩ : ∃ hi, hi = (h1 % 18446744073709551616 - h2 % 18446744073709551616 - bor l1 l2) % 18446744073709551616 := ⟨_, rfl⟩
  obtain ⟨bb, hbb⟩ : ∃ bb, bb = bor l1 l2 := ⟨_, rfl⟩
  rw [← hlo, ← hbb] at q1
  rw [← hhi, ← hbb] at q2
  rw [← hbb] at hhi
  unfold bor at hbb
  obtain ⟨d, hd⟩ : ∃ d, d = IntKind.i64.wrap hi := ⟨_, rfl⟩
  have hw := hd.symm
  rw [wrapI (by rw [hhi]; unfold U64; omega)] at hd
  have ul : U64 lo := by rw [hlo]; unfold U64; omega
  have key : (I128 (a - b) ∧ d * 18446744073709551616 + lo = a - b) ∨ (a - b < -170141183460469231731687303715884105728 ∧ 0 ≤ d) ∨ (170141183460469231731687303715884105727 < a - b ∧ d < 0) := by
    unfold I128
    split at hbb <;> split at hd <;> omega
  clear hlo hhi hbb hd hq
  rcases Bool.eq_false_or_eq_true (decide (h1 < 0)) with e1 | e1
  · rcases Bool.eq_false_or_eq_true (decide (h2 < 0)) with e2 | e2
    · have kk : I128 (a - b) ∧ d * 18446744073709551616 + lo = a - b := by rcases key with k | k | k <;> first | exact k | (exfalso; simp at e1 e2 ; omega)
      rw [wres_in kk.1]
      show Calls _ _ _ _ (fun e w' => e = .returned (.tuple #[wide (a - b), .int .i64 0]) ∧ Upd [] w w')
      rw [← wide_of kk.2 ul]
      clear kk
      clear key ea eb sa sb ha hb ua ub ia ib
      go_enter Try.func103, Try.ntmps103
      go_wp2_with (first | simp only [q1] | simp only [q2])
      refine bodyPost_ret (v := .tuple #[.agg #[.int .i64 d, .int .u64 lo], .int .i64 0]) ?_ rfl ⟨rfl, ((((Upd.refl _ _).alloc _).alloc _).alloc _).alloc _⟩
      simp [results, Try.f103, go_sem]
    · rcases Bool.eq_false_or_eq_true (decide (d < 0)) with e3 | e3
      · have kk : I128 (a - b) ∧ d * 18446744073709551616 + lo = a - b := by rcases key with k | k | k <;> first | exact k | (exfalso; simp at e1 e2 e3 ; omega)
        rw [wres_in kk.1]
        show Calls _ _ _ _ (fun e w' => e = .returned (.tuple #[wide (a - b), .int .i64 0]) ∧ Upd [] w w')
        rw [← wide_of kk.2 ul]
        clear kk
        clear key ea eb sa sb ha hb ua ub ia ib
        go_enter Try.func103, Try.ntmps103
        go_wp2_with (first | simp only [q1] | simp only [q2])
        refine bodyPost_ret (v := .tuple #[.agg #[.int .i64 d, .int .u64 lo], .int .i64 0]) ?_ rfl ⟨rfl, ((((Upd.refl _ _).alloc _).alloc _).alloc _).alloc _⟩
        simp [results, Try.f103, go_sem]
      · rw [wres_out (by unfold I128 at *; unfold U64 at ul; rcases key with k | k | k <;> simp at e1 e2 e3 <;> omega)]
        clear key ea eb sa sb ha hb ua ub ia ib
        go_enter Try.func103, Try.ntmps103
        go_wp2_with (first | simp only [q1] | simp only [q2])
        refine bodyPost_ret (v := .tuple #[wide 0, .int .i64 10]) ?_ rfl ⟨rfl, ((((Upd.refl _ _).alloc _).alloc _).alloc _).alloc _⟩
        rw [wide0]
        simp [results, Try.f103, go_sem]
  · rcases Bool.eq_false_or_eq_true (decide (h2 < 0)) with e2 | e2
    · rcases Bool.eq_false_or_eq_true (decide (d < 0)) with e3 | e3
      · rw [wres_out (by unfold I128 at *; unfold U64 at ul; rcases key with k | k | k <;> simp at e1 e2 e3 <;> omega)]
        clear key ea eb sa sb ha hb ua ub ia ib
        go_enter Try.func103, Try.ntmps103
        go_wp2_with (first | simp only [q1] | simp only [q2])
        refine bodyPost_ret (v := .tuple #[wide 0, .int .i64 10]) ?_ rfl ⟨rfl, ((((Upd.refl _ _).alloc _).alloc _).alloc _).alloc _⟩
        rw [wide0]
        simp [results, Try.f103, go_sem]
      · have kk : I128 (a - b) ∧ d * 18446744073709551616 + lo = a - b := by rcases key with k | k | k <;> first | exact k | (exfalso; simp at e1 e2 e3 ; omega)
        rw [wres_in kk.1]
        show Calls _ _ _ _ (fun e w' => e = .returned (.tuple #[wide (a - b), .int .i64 0]) ∧ Upd [] w w')
        rw [← wide_of kk.2 ul]
        clear kk
        clear key ea eb sa sb ha hb ua ub ia ib
        go_enter Try.func103, Try.ntmps103
        go_wp2_with (first | simp only [q1] | simp only [q2])
        refine bodyPost_ret (v := .tuple #[.agg #[.int .i64 d, .int .u64 lo], .int .i64 0]) ?_ rfl ⟨rfl, ((((Upd.refl _ _).alloc _).alloc _).alloc _).alloc _⟩
        simp [results, Try.f103, go_sem]
    · have kk : I128 (a - b) ∧ d * 18446744073709551616 + lo = a - b := by rcases key with k | k | k <;> first | exact k | (exfalso; simp at e1 e2 ; omega)
      rw [wres_in kk.1]
      show Calls _ _ _ _ (fun e w' => e = .returned (.tuple #[wide (a - b), .int .i64 0]) ∧ Upd [] w w')
      rw [← wide_of kk.2 ul]
      clear kk
      clear key ea eb sa sb ha hb ua ub ia ib
      go_enter Try.func103, Try.ntmps103
      go_wp2_with (first | simp only [q1] | simp only [q2])
      refine bodyPost_ret (v := .tuple #[.agg #[.int .i64 d, .int .u64 lo], .int .i64 0]) ?_ rfl ⟨rfl, ((((Upd.refl _ _).alloc _).alloc _).alloc _).alloc _⟩
      simp [results, Try.f103, go_sem]
set_option maxHeartbeats 2000000 in
theorem add_calls (a b : Int) (ha : I128 a) (hb : I128 b) (w : World) : Calls Try.prog 22 #[wide a, wide b] w fun e w' => e = .returned (.tuple #[wide (wres (a + b)).1, .int .i64 (wres (a + b)).2]) ∧ Upd [] w w' := by
  unfold wide
  have ea := whl a
  have eb := whl b
  have ua := wl_u a
  have ub := wl_u b
  have ia := wh_i ha
  have ib := wh_i hb
  have sa : a < 0 ↔ wh a < 0 := by unfold wh; omega
  have sb : b < 0 ↔ wh b < 0 := by unfold wh; omega
  generalize wh a = h1 at *
  generalize wl a = l1 at *
  generalize wh b = h2 at *
  generalize wl b = l2 at *
  unfold U64 at ua ub
  unfold I64 at ia ib
  unfold I128 at ha hb
  have hwa : IntKind.u64.wrap h1 = h1 % 18446744073709551616 := wrapU
  have hwb : IntKind.u64.wrap h2 = h2 % 18446744073709551616 := wrapU
  have hq : 0 ≤ (l1 + l2) / 18446744073709551616 ∧ (l1 + l2) / 18446744073709551616 ≤ 1 := by omega
  have q1 := add64z l1 l2 ua.1 ub.1
  have q2 := add64 (h1 % 18446744073709551616) (h2 % 18446744073709551616) ((l1 + l2) / 18446744073709551616) (by omega) (by omega) hq.1 hq.2
  obtain ⟨lo, hlo⟩ : ∃ lo, lo = (l1 + l2) % 18446744073709551616 := ⟨_, rfl⟩
  obtain ⟨hi, hhi⟩ : ∃ hi, hi = (h1 % 18446744073709551616 + h2 % 18446744073709551616 + (l1 + l2) / 18446744073709551616) % 18446744073709551616 := ⟨_, rfl⟩
  obtain ⟨bb, hbb⟩ : ∃ bb, bb = (l1 + l2) / 18446744073709551616 := ⟨_, rfl⟩
  rw [← hlo, ← hbb] at q1
  rw [← hhi, ← hbb] at q2
  rw [← hbb] at hhi
  obtain ⟨d, hd⟩ : ∃ d, d = IntKind.i64.wrap hi := ⟨_, rfl⟩
  have hw := hd.symm
  rw [wrapI (by rw [hhi]; unfold U64; omega)] at hd
  have ul : U64 lo := by rw [hlo]; unfold U64; omega
  have key : (I128 (a + b) ∧ d * 18446744073709551616 + lo = a + b) ∨ (a + b < -170141183460469231731687303715884105728 ∧ 0 ≤ d) ∨ (170141183460469231731687303715884105727 < a + b ∧ d < 0) := by
    unfold I128
    split at hd <;> omega
  clear hlo hhi hbb hd hq
  rcases Bool.eq_false_or_eq_true (decide (h1 < 0)) with e1 | e1
  · rcases Bool.eq_false_or_eq_true (decide (h2 < 0)) with e2 | e2
    · rcases Bool.eq_false_or_eq_true (decide (d < 0)) with e3 | e3
      · have kk : I128 (a + b) ∧ d * 18446744073709551616 + lo = a + b := by rcases key with k | k | k <;> first | exact k | (exfalso; simp at e1 e2 e3 ; omega)
        rw [wres_in kk.1]
        show Calls _ _ _ _ (fun e w' => e = .returned (.tuple #[wide (a + b), .int .i64 0]) ∧ Upd [] w w')
        rw [← wide_of kk.2 ul]
        clear kk
        clear key ea eb sa sb ha hb ua ub ia ib
        go_enter Try.func22, Try.ntmps22
        go_wp2_with (first | simp only [q1] | simp only [q2])
        refine bodyPost_ret (v := .tuple #[.agg #[.int .i64 d, .int .u64 lo], .int .i64 0]) ?_ rfl ⟨rfl, ((((Upd.refl _ _).alloc _).alloc _).alloc _).alloc _⟩
        simp [results, Try.f22, go_sem]
      · rw [wres_out (by unfold I128 at *; unfold U64 at ul; rcases key with k | k | k <;> simp at e1 e2 e3 <;> omega)]
        clear key ea eb sa sb ha hb ua ub ia ib
        go_enter Try.func22, Try.ntmps22
        go_wp2_with (first | simp only [q1] | simp only [q2])
        refine bodyPost_ret (v := .tuple #[wide 0, .int .i64 10]) ?_ rfl ⟨rfl, ((((Upd.refl _ _).alloc _).alloc _).alloc _).alloc _⟩
        rw [wide0]
        simp [results, Try.f22, go_sem]
    · have kk : I128 (a + b) ∧ d * 18446744073709551616 + lo = a + b := by rcases key with k | k | k <;> first | exact k | (exfalso; simp at e1 e2 ; omega)
      rw [wres_in kk.1]
      show Calls _ _ _ _ (fun e w' => e = .returned (.tuple #[wide (a + b), .int .i64 0]) ∧ Upd [] w w')
      rw [← wide_of kk.2 ul]
      clear kk
      clear key ea eb sa sb ha hb ua ub ia ib
      go_enter Try.func22, Try.ntmps22
      go_wp2_with (first | simp only [q1] | simp only [q2])
      refine bodyPost_ret (v := .tuple #[.agg #[.int .i64 d, .int .u64 lo], .int .i64 0]) ?_ rfl ⟨rfl, ((((Upd.refl _ _).alloc _).alloc _).alloc _).alloc _⟩
      simp [results, Try.f22, go_sem]
  · rcases Bool.eq_false_or_eq_true (decide (h2 < 0)) with e2 | e2
    · have kk : I128 (a + b) ∧ d * 18446744073709551616 + lo = a + b := by rcases key with k | k | k <;> first | exact k | (exfalso; simp at e1 e2 ; omega)
      rw [wres_in kk.1]
      show Calls _ _ _ _ (fun e w' => e = .returned (.tuple #[wide (a + b), .int .i64 0]) ∧ Upd [] w w')
      rw [← wide_of kk.2 ul]
      clear kk
      clear key ea eb sa sb ha hb ua ub ia ib
      go_enter Try.func22, Try.ntmps22
      go_wp2_with (first | simp only [q1] | simp only [q2])
      refine bodyPost_ret (v := .tuple #[.agg #[.int .i64 d, .int .u64 lo], .int .i64 0]) ?_ rfl ⟨rfl, ((((Upd.refl _ _).alloc _).alloc _).alloc _).alloc _⟩
      simp [results, Try.f22, go_sem]
    · rcases Bool.eq_false_or_eq_true (decide (d < 0)) with e3 | e3
      · rw [wres_out (by unfold I128 at *; unfold U64 at ul; rcases key with k | k | k <;> simp at e1 e2 e3 <;> omega)]
        clear key ea eb sa sb ha hb ua ub ia ib
        go_enter Try.func22, Try.ntmps22
        go_wp2_with (first | simp only [q1] | simp only [q2])
        refine bodyPost_ret (v := .tuple #[wide 0, .int .i64 10]) ?_ rfl ⟨rfl, ((((Upd.refl _ _).alloc _).alloc _).alloc _).alloc _⟩
        rw [wide0]
        simp [results, Try.f22, go_sem]
      · have kk : I128 (a + b) ∧ d * 18446744073709551616 + lo = a + b := by rcases key with k | k | k <;> first | exact k | (exfalso; simp at e1 e2 e3 ; omega)
        rw [wres_in kk.1]
        show Calls _ _ _ _ (fun e w' => e = .returned (.tuple #[wide (a + b), .int .i64 0]) ∧ Upd [] w w')
        rw [← wide_of kk.2 ul]
        clear kk
        clear key ea eb sa sb ha hb ua ub ia ib
        go_enter Try.func22, Try.ntmps22
        go_wp2_with (first | simp only [q1] | simp only [q2])
        refine bodyPost_ret (v := .tuple #[.agg #[.int .i64 d, .int .u64 lo], .int .i64 0]) ?_ rfl ⟨rfl, ((((Upd.refl _ _).alloc _).alloc _).alloc _).alloc _⟩
        simp [results, Try.f22, go_sem]
theorem neg_calls (a : Int) (ha : I128 a) (w : World) : Calls Try.prog 87 #[wide a] w fun e w' => e = .returned (.tuple #[wide (wres (-a)).1, .int .i64 (wres (-a)).2]) ∧ Upd [] w w' := by
  have HC := Lib.hid (sub_calls 0 a (by unfold I128; omega) ha)
  rw [Int.zero_sub, wide0] at HC
  clear ha
  generalize wres (-a) = r at *
  go_enter Try.func87, Try.ntmps87
  go_wp2_with fail
  refine (HC.out _).mono ?_
  rintro e w1 ⟨rfl, hU⟩
  have hb := ((HB.new1 w (.cells #[.int .i64 (wh a), .int .u64 (wl a)] 47) 47 [.int .i64 0, .int .u64 0]).upd hU (by simp))
  have y0 := hb.cell (j := 0) rfl
  have y1 := hb.cell (j := 1) rfl
  have f0 := hb.free 0
  have f1 := hb.free 1
  have HU := Lib.hid ((((Upd.refl [] w).alloc _).alloc _).then hU)
  clear hU
  go_wp2
  have hb2 := (hb.set 0 (.int .i64 (wh r.1))).set 1 (.int .u64 (wl r.1))
  have z0 := hb2.cell (j := 0) rfl
  have z1 := hb2.cell (j := 1) rfl
  refine bodyPost_ret (v := .tuple #[wide r.1, .int .i64 r.2]) ?_ rfl ⟨rfl, (HU.out.setCell (.inr (by simp)) _).setCell (.inr (by simp)) _⟩
  simp [results, Try.f87, go_sem, z0, z1]
theorem abs_calls (a : Int) (ha : I128 a) (w : World) : Calls Try.prog 71 #[wide a] w fun e w' => e = .returned (.tuple #[wide (wres a.natAbs).1, .int .i64 (wres a.natAbs).2]) ∧ Upd [] w w' := by
  have sa : a < 0 ↔ wh a < 0 := by unfold wh; omega
  by_cases h : a < 0
  · have HC := Lib.hid (neg_calls a ha)
    rw [show -a = (a.natAbs : Int) by omega] at HC
    have e1 : decide (wh a < 0) = true := by simpa using sa.1 h
    clear ha sa h
    generalize wres a.natAbs = r at *
    go_enter Try.func71, Try.ntmps71
    go_wp2_with fail
    refine (HC.out _).mono ?_
    rintro e w1 ⟨rfl, hU⟩
    have hb := ((HB.new1 w (.cells #[.int .i64 (wh a), .int .u64 (wl a)] 47) 47 [.int .i64 0, .int .u64 0]).upd hU (by simp))
    have y0 := hb.cell (j := 0) rfl
    have y1 := hb.cell (j := 1) rfl
    have f0 := hb.free 0
    have f1 := hb.free 1
    have HU := Lib.hid ((((Upd.refl [] w).alloc _).alloc _).then hU)
    clear hU
    go_wp2
    have hb2 := (hb.set 0 (.int .i64 (wh r.1))).set 1 (.int .u64 (wl r.1))
    have z0 := hb2.cell (j := 0) rfl
    have z1 := hb2.cell (j := 1) rfl
    refine bodyPost_ret (v := .tuple #[wide r.1, .int .i64 r.2]) ?_ rfl ⟨rfl, (HU.out.setCell (.inr (by simp)) _).setCell (.inr (by simp)) _⟩
    simp [results, Try.f71, go_sem, z0, z1]
  · have e1 : decide (wh a < 0) = false := by simp; omega
    rw [show (a.natAbs : Int) = a by omega, wres_in ha]
    clear ha sa h
    go_enter Try.func71, Try.ntmps71
    go_wp2
    refine bodyPost_ret (v := .tuple #[wide a, .int .i64 0]) ?_ rfl ⟨rfl, ((Upd.refl _ _).alloc _).alloc _⟩
    simp [results, Try.f71, go_sem]
end Go.Proofs.Ytdjpcinibgbglaa
