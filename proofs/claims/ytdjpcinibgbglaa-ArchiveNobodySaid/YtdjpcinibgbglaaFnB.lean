/- archive.fits behind another. -/
import Derived.Test.YtdjpcinibgbglaaFnA
set_option linter.unusedVariables false
set_option linter.unusedSimpArgs false
namespace Go.Proofs.Ytdjpcinibgbglaa
open Go.RowKit Go.Sort
set_option maxHeartbeats 400000 in
theorem fits_last (s n a m : Int) (q c b o : Nat) (w : World) (hok : okSpc (s, n) = true) (hA : okSpc (a, m) = true)
    (hc1 : q + 1 ≤ c) (hc2 : c ≤ maxLen) (r0 : w.cell? ⟨b, o + q * 2, none⟩ = some (.int .i64 a)) (r1 : w.cell? ⟨b, o + q * 2 + 1, none⟩ = some (.int .i64 m)) :
    Calls Try.prog 32 #[spcV (s, n), .slice (some ⟨b, o, none⟩) (q + 1) c] w fun e w' => e = .returned (.bool (okPair (a, m) (s, n))) ∧ Upd [] w w' := by
  obtain ⟨res, hres⟩ : ∃ res, res = okPair (a, m) (s, n) := ⟨_, rfl⟩
  rw [← hres]
  have HRES := Lib.hid hres
  clear hres
  obtain ⟨g0, g1, g2, g3, g4⟩ := okSpc_iff.1 hok
  simp only at g0 g1 g2 g3 g4
  have f0 : decide (s < 1) = false := decide_eq_false (by omega)
  have f1 : decide (1099511627775 < s) = false := decide_eq_false (by omega)
  have f2 : decide (n < 1) = false := decide_eq_false (by omega)
  have f3 : decide (4096 < n) = false := decide_eq_false (by omega)
  have td : (1099511627775 : Int).tdiv n = 1099511627775 / n := Int.tdiv_eq_ediv_of_nonneg (by decide)
  have tz : (n == 0) = false := by simp; omega
  have tw : IntKind.i64.wrap (1099511627775 / n) = 1099511627775 / n := wrapI' (by have := ediv_le' (t := 1099511627775) (s := n) (by decide) (by omega); unfold I64; omega)
  obtain ⟨D, hD⟩ : ∃ D, D = 1099511627775 / n := ⟨_, rfl⟩
  rw [← hD] at td tw g4
  have f4 : decide (D < s) = false := decide_eq_false (by omega)
  have k0 := (HB.new w 44 (spcC (s, n))).cell (j := 0) rfl
  have k1 := (HB.new w 44 (spcC (s, n))).cell (j := 1) rfl
  have r0' := ((Upd.refl [] w).alloc (.cells #[.int .i64 s, .int .i64 n] 44)).cell r0 (by simp)
  have r1' := ((Upd.refl [] w).alloc (.cells #[.int .i64 s, .int .i64 n] 44)).cell r1 (by simp)
  clear r0 r1
  have eq1 : wrap64 (q : Int) = (q : Int) := w64 (by unfold maxLen at hc2; unfold I64; omega)
  have eq2 : (((q : Int) + 1) == 0) = false := by simp; omega
  have HOK := Lib.hid hok
  have HA := Lib.hid hA
  have HC1 := Lib.hid hc1
  have HC2 := Lib.hid hc2
  clear hok hA hD hc1 hc2
  go_enter Try.func32, Try.ntmps32
  go_wp2_with fail
  go_quiet (fail)
  go_wp2_with fail
  obtain ⟨W1, hW1⟩ : ∃ W1, W1 = ((w.alloc (.cells #[.int .i64 s, .int .i64 n] 44)).drewN nq).alloc (.cells #[.int .i64 a, .int .i64 m] 44) := ⟨_, rfl⟩
  have HU := Lib.hid (show Upd [] w W1 by rw [hW1]; exact (((Upd.refl _ _).alloc _).drewN _).alloc _)
  have b0 : HB W1 w.heap.size 44 [.int .i64 s, .int .i64 n] := by rw [hW1]; exact ((HB.new w _ [.int .i64 s, .int .i64 n]).drewN nq).alloc _
  have b1 : HB W1 (w.heap.size + 1) 44 [.int .i64 a, .int .i64 m] := by
    rw [hW1]
    have := HB.new ((w.alloc (.cells #[.int .i64 s, .int .i64 n] 44)).drewN nq) 44 [.int .i64 a, .int .i64 m]
    simpa using this
  rw [← hW1]
  have x0 := fun d os => rg_cell (b0.cell (j := 0) rfl) d os
  have x1 := fun d os => rg_cell (b0.cell (j := 1) rfl) d os
  have x2 := fun d os => rg_cell (b1.cell (j := 0) rfl) d os
  have x3 := fun d os => rg_cell (b1.cell (j := 1) rfl) d os
  clear hW1 b0 b1 k0 k1 r0' r1'
  obtain ⟨a0, a1, a2, a3, a4⟩ := okSpc_iff.1 HA.out
  simp only at a0 a1 a2 a3
  have hI1 : I64 (s * n) := by have := reach_le HOK.out; unfold reachS at this; simp only at this; unfold I64; omega
  have hI2 : I64 (a * m) := by have := reach_le HA.out; unfold reachS at this; simp only at this; unfold I64; omega
  have em : s.tmod a = s % a := tmod_nn (by omega)
  have ed : s.tdiv a = s / a := Int.tdiv_eq_ediv_of_nonneg (by omega)
  have ew : IntKind.i64.wrap (s / a) = s / a := wrapI' (by have := ediv_le' (t := s) (s := a) (by omega) (by omega); unfold I64; omega)
  have ez : (a == 0) = false := by simp; omega
  clear a4
  by_cases p0 : s % a = 0
  rotate_left
  · obtain rfl : false = res := by rw [HRES.out]; simp [okPair, reachS, p0]
    have c0 : (s % a == 0) = false := by simpa using p0
    clear HRES
    go_wp2_with fail
    refine wp_region_quiet_below (by kernel_rfl) (by kernel_rfl) ?_
    repeat (go_big_quiet_step ((go_at_call 43; exact rg_of (reach_calls _ _ (by assumption) _))))
    refine wpQuiet_nil ?_
    rintro _ ⟨⟨dq, osq⟩, rfl⟩
    go_wp2
    go_ret
    exact ⟨rfl, HU.out.then0 (rg_upd _ _ _)⟩
  have c0 : (s % a == 0) = true := by simpa using p0
  by_cases p1 : a < s
  rotate_left
  · obtain rfl : false = res := by rw [HRES.out]; simp [okPair, reachS, p1]
    have c1 : decide (a < s) = false := by simpa using p1
    clear HRES
    go_wp2_with fail
    refine wp_region_quiet_below (by kernel_rfl) (by kernel_rfl) ?_
    repeat (go_big_quiet_step ((go_at_call 43; exact rg_of (reach_calls _ _ (by assumption) _))))
    refine wpQuiet_nil ?_
    rintro _ ⟨⟨dq, osq⟩, rfl⟩
    go_wp2
    go_ret
    exact ⟨rfl, HU.out.then0 (rg_upd _ _ _)⟩
  have c1 : decide (a < s) = true := by simpa using p1
  by_cases p2 : a * m < s * n
  rotate_left
  · obtain rfl : false = res := by rw [HRES.out]; simp [okPair, reachS, p2]
    have c2 : decide (a * m < s * n) = false := by simpa using p2
    clear HRES
    go_wp2_with fail
    refine wp_region_quiet_below (by kernel_rfl) (by kernel_rfl) ?_
    repeat (go_big_quiet_step ((go_at_call 43; exact rg_of (reach_calls _ _ (by assumption) _))))
    refine wpQuiet_nil ?_
    rintro _ ⟨⟨dq, osq⟩, rfl⟩
    go_wp2
    go_ret
    exact ⟨rfl, HU.out.then0 (rg_upd _ _ _)⟩
  have c2 : decide (a * m < s * n) = true := by simpa using p2
  by_cases p3 : s / a ≤ m
  rotate_left
  · obtain rfl : false = res := by rw [HRES.out]; simp [okPair, reachS, p3]
    have c3 : decide (s / a ≤ m) = false := by simpa using p3
    clear HRES
    go_wp2_with fail
    refine wp_region_quiet_below (by kernel_rfl) (by kernel_rfl) ?_
    repeat (go_big_quiet_step ((go_at_call 43; exact rg_of (reach_calls _ _ (by assumption) _))))
    refine wpQuiet_nil ?_
    rintro _ ⟨⟨dq, osq⟩, rfl⟩
    go_wp2
    go_ret
    exact ⟨rfl, HU.out.then0 (rg_upd _ _ _)⟩
  have c3 : decide (s / a ≤ m) = true := by simpa using p3
  obtain rfl : true = res := by rw [HRES.out]; simp [okPair, reachS, p0, p1, p2, p3]
  clear HRES
  go_wp2_with fail
  refine wp_region_quiet_below (by kernel_rfl) (by kernel_rfl) ?_
  repeat (go_big_quiet_step ((go_at_call 43; exact rg_of (reach_calls _ _ (by assumption) _))))
  refine wpQuiet_nil ?_
  rintro _ ⟨⟨dq, osq⟩, rfl⟩
  go_wp2
  go_ret
  exact ⟨rfl, HU.out.then0 (rg_upd _ _ _)⟩
end Go.Proofs.Ytdjpcinibgbglaa
