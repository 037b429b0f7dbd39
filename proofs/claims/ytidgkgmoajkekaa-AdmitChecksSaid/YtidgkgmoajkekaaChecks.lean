/- admit.Check and the document's: a config that may be. -/
import Derived.Test.YtidgkgmoajkekaaBase
import Derived.Test.YtidgkgmoajkekaaProg
set_option linter.unusedVariables false
set_option linter.unusedSimpArgs false
namespace Go.Proofs.Ytidgkgmoajkekaa
open Go.RowKit
def inR (x lo hi : Int) : Bool := decide (lo ≤ x) && decide (x ≤ hi)
def okC (c0 c1 c2 c3 c4 c5 c6 c7 c8 : Int) : Bool := inR c0 1 1048576 && inR c1 0 1099511627775 && inR c2 0 1099511627775 && inR c3 1 1099511627775 && inR c4 1 1024 && inR c5 1 65536 && inR c6 1 65536 && inR c7 1 16 && inR c8 1 1024
theorem inR_true {x lo hi : Int} (h : inR x lo hi = true) : lo ≤ x ∧ x ≤ hi := by simpa [inR] using h
theorem within_calls (x lo hi : Int) (r : Bool) (h : inR x lo hi = r) (w : World) :
    Calls Try.prog 9 #[.int .i64 x, .int .i64 lo, .int .i64 hi] w fun e w' => e = .returned (.bool r) ∧ w' = w := by
  unfold inR at h
  by_cases h1 : lo ≤ x
  · by_cases h2 : x ≤ hi
    · obtain rfl : true = r := by simpa [h1, h2] using h
      clear h
      go_enter Try.func9, Try.ntmps9
      go_wp2
      go_ret
      exact ⟨rfl, rfl⟩
    · obtain rfl : false = r := by simpa [h1, h2] using h
      clear h
      have e2 : decide (x ≤ hi) = false := by simpa using h2
      go_enter Try.func9, Try.ntmps9
      go_wp2
      go_ret
      exact ⟨rfl, rfl⟩
  · obtain rfl : false = r := by simpa [h1] using h
    clear h
    have e1 : decide (lo ≤ x) = false := by simpa using h1
    go_enter Try.func9, Try.ntmps9
    go_wp2
    go_ret
    exact ⟨rfl, rfl⟩
set_option maxHeartbeats 4000000 in
theorem check_calls (c0 c1 c2 c3 c4 c5 c6 c7 c8 : Int) (w : World) : Calls Try.prog 6 #[.agg #[.int .i64 c0, .int .i64 c1, .int .i64 c2, .int .i64 c3, .int .i64 c4, .int .i64 c5, .int .i64 c6, .int .i64 c7, .int .i64 c8]] w fun e w' => e = .returned (.int .i64 (if okC c0 c1 c2 c3 c4 c5 c6 c7 c8 = true then 0 else 120)) ∧ Upd [] w w' := by
  rcases Bool.eq_false_or_eq_true (inR c0 1 1048576) with h | h <;> have h0 := Lib.hid h <;> clear h
  rotate_left
  · have ho : okC c0 c1 c2 c3 c4 c5 c6 c7 c8 = false := by simp [okC, h0.out]
    rw [ho]; clear ho
    go_enter Try.func6, Try.ntmps6
    go_wp2_with (go_at_call 9; refine (within_calls _ _ _ _ (by first | exact h0.out) _).mono ?_; rintro e w' ⟨rfl, rfl⟩)
    go_ret
    exact ⟨rfl, (Upd.refl _ _).alloc _⟩
  rcases Bool.eq_false_or_eq_true (inR c1 0 1099511627775) with h | h <;> have h1 := Lib.hid h <;> clear h
  rotate_left
  · have ho : okC c0 c1 c2 c3 c4 c5 c6 c7 c8 = false := by simp [okC, h0.out, h1.out]
    rw [ho]; clear ho
    go_enter Try.func6, Try.ntmps6
    go_wp2_with (go_at_call 9; refine (within_calls _ _ _ _ (by first | exact h0.out | exact h1.out) _).mono ?_; rintro e w' ⟨rfl, rfl⟩)
    go_ret
    exact ⟨rfl, (Upd.refl _ _).alloc _⟩
  rcases Bool.eq_false_or_eq_true (inR c2 0 1099511627775) with h | h <;> have h2 := Lib.hid h <;> clear h
  rotate_left
  · have ho : okC c0 c1 c2 c3 c4 c5 c6 c7 c8 = false := by simp [okC, h0.out, h1.out, h2.out]
    rw [ho]; clear ho
    go_enter Try.func6, Try.ntmps6
    go_wp2_with (go_at_call 9; refine (within_calls _ _ _ _ (by first | exact h0.out | exact h1.out | exact h2.out) _).mono ?_; rintro e w' ⟨rfl, rfl⟩)
    go_ret
    exact ⟨rfl, (Upd.refl _ _).alloc _⟩
  rcases Bool.eq_false_or_eq_true (inR c3 1 1099511627775) with h | h <;> have h3 := Lib.hid h <;> clear h
  rotate_left
  · have ho : okC c0 c1 c2 c3 c4 c5 c6 c7 c8 = false := by simp [okC, h0.out, h1.out, h2.out, h3.out]
    rw [ho]; clear ho
    go_enter Try.func6, Try.ntmps6
    go_wp2_with (go_at_call 9; refine (within_calls _ _ _ _ (by first | exact h0.out | exact h1.out | exact h2.out | exact h3.out) _).mono ?_; rintro e w' ⟨rfl, rfl⟩)
    go_ret
    exact ⟨rfl, (Upd.refl _ _).alloc _⟩
  rcases Bool.eq_false_or_eq_true (inR c4 1 1024) with h | h <;> have h4 := Lib.hid h <;> clear h
  rotate_left
  · have ho : okC c0 c1 c2 c3 c4 c5 c6 c7 c8 = false := by simp [okC, h0.out, h1.out, h2.out, h3.out, h4.out]
    rw [ho]; clear ho
    go_enter Try.func6, Try.ntmps6
    go_wp2_with (go_at_call 9; refine (within_calls _ _ _ _ (by first | exact h0.out | exact h1.out | exact h2.out | exact h3.out | exact h4.out) _).mono ?_; rintro e w' ⟨rfl, rfl⟩)
    go_ret
    exact ⟨rfl, (Upd.refl _ _).alloc _⟩
  rcases Bool.eq_false_or_eq_true (inR c5 1 65536) with h | h <;> have h5 := Lib.hid h <;> clear h
  rotate_left
  · have ho : okC c0 c1 c2 c3 c4 c5 c6 c7 c8 = false := by simp [okC, h0.out, h1.out, h2.out, h3.out, h4.out, h5.out]
    rw [ho]; clear ho
    go_enter Try.func6, Try.ntmps6
    go_wp2_with (go_at_call 9; refine (within_calls _ _ _ _ (by first | exact h0.out | exact h1.out | exact h2.out | exact h3.out | exact h4.out | exact h5.out) _).mono ?_; rintro e w' ⟨rfl, rfl⟩)
    go_ret
    exact ⟨rfl, (Upd.refl _ _).alloc _⟩
  rcases Bool.eq_false_or_eq_true (inR c6 1 65536) with h | h <;> have h6 := Lib.hid h <;> clear h
  rotate_left
  · have ho : okC c0 c1 c2 c3 c4 c5 c6 c7 c8 = false := by simp [okC, h0.out, h1.out, h2.out, h3.out, h4.out, h5.out, h6.out]
    rw [ho]; clear ho
    go_enter Try.func6, Try.ntmps6
    go_wp2_with (go_at_call 9; refine (within_calls _ _ _ _ (by first | exact h0.out | exact h1.out | exact h2.out | exact h3.out | exact h4.out | exact h5.out | exact h6.out) _).mono ?_; rintro e w' ⟨rfl, rfl⟩)
    go_ret
    exact ⟨rfl, (Upd.refl _ _).alloc _⟩
  rcases Bool.eq_false_or_eq_true (inR c7 1 16) with h | h <;> have h7 := Lib.hid h <;> clear h
  rotate_left
  · have ho : okC c0 c1 c2 c3 c4 c5 c6 c7 c8 = false := by simp [okC, h0.out, h1.out, h2.out, h3.out, h4.out, h5.out, h6.out, h7.out]
    rw [ho]; clear ho
    go_enter Try.func6, Try.ntmps6
    go_wp2_with (go_at_call 9; refine (within_calls _ _ _ _ (by first | exact h0.out | exact h1.out | exact h2.out | exact h3.out | exact h4.out | exact h5.out | exact h6.out | exact h7.out) _).mono ?_; rintro e w' ⟨rfl, rfl⟩)
    go_ret
    exact ⟨rfl, (Upd.refl _ _).alloc _⟩
  rcases Bool.eq_false_or_eq_true (inR c8 1 1024) with h | h <;> have h8 := Lib.hid h <;> clear h
  rotate_left
  · have ho : okC c0 c1 c2 c3 c4 c5 c6 c7 c8 = false := by simp [okC, h0.out, h1.out, h2.out, h3.out, h4.out, h5.out, h6.out, h7.out, h8.out]
    rw [ho]; clear ho
    go_enter Try.func6, Try.ntmps6
    go_wp2_with (go_at_call 9; refine (within_calls _ _ _ _ (by first | exact h0.out | exact h1.out | exact h2.out | exact h3.out | exact h4.out | exact h5.out | exact h6.out | exact h7.out | exact h8.out) _).mono ?_; rintro e w' ⟨rfl, rfl⟩)
    go_ret
    exact ⟨rfl, (Upd.refl _ _).alloc _⟩
  have ho : okC c0 c1 c2 c3 c4 c5 c6 c7 c8 = true := by simp [okC, h0.out, h1.out, h2.out, h3.out, h4.out, h5.out, h6.out, h7.out, h8.out]
  rw [ho]; clear ho
  go_enter Try.func6, Try.ntmps6
  go_wp2_with (go_at_call 9; refine (within_calls _ _ _ _ (by first | exact h0.out | exact h1.out | exact h2.out | exact h3.out | exact h4.out | exact h5.out | exact h6.out | exact h7.out | exact h8.out) _).mono ?_; rintro e w' ⟨rfl, rfl⟩)
  go_ret
  exact ⟨rfl, (Upd.refl _ _).alloc _⟩
set_option maxHeartbeats 8000000 in
theorem rcheck_calls (c0 c1 c2 c3 c4 c5 c6 c7 c8 : Int) (w : World) : Calls Try.prog 5 #[.agg #[.int .i64 c0, .int .i64 c1, .int .i64 c2, .int .i64 c3, .int .i64 c4, .int .i64 c5, .int .i64 c6, .int .i64 c7, .int .i64 c8]] w fun e w' => e = .returned (.int .i64 (if okC c0 c1 c2 c3 c4 c5 c6 c7 c8 = true then 0 else 120)) ∧ Upd [] w w' := by
  rcases Bool.eq_false_or_eq_true (inR c0 1 1048576) with h | h <;> have h0 := Lib.hid h <;> clear h
  rotate_left
  · by_cases k : c0 < 1
    · have ho : okC c0 c1 c2 c3 c4 c5 c6 c7 c8 = false := by simp [okC, h0.out]
      rw [ho]; clear ho
      have a0 : decide (c0 < 1) = true := by simpa using k
      clear k
      go_enter Try.func5, Try.ntmps5
      go_wp2
      go_ret
      exact ⟨rfl, (Upd.refl _ _).alloc _⟩
    · have ho : okC c0 c1 c2 c3 c4 c5 c6 c7 c8 = false := by simp [okC, h0.out]
      rw [ho]; clear ho
      have a0 : decide (c0 < 1) = false := by simpa using k
      have b0 : decide (1048576 < c0) = true := by have := h0.out; simp [inR] at this; simp; omega
      clear k
      go_enter Try.func5, Try.ntmps5
      go_wp2
      go_ret
      exact ⟨rfl, (Upd.refl _ _).alloc _⟩
  rcases Bool.eq_false_or_eq_true (inR c1 0 1099511627775) with h | h <;> have h1 := Lib.hid h <;> clear h
  rotate_left
  · by_cases k : c1 < 0
    · have ho : okC c0 c1 c2 c3 c4 c5 c6 c7 c8 = false := by simp [okC, h0.out, h1.out]
      rw [ho]; clear ho
      have a0 : decide (c0 < 1) = false := by have := (inR_true h0.out).1; simpa using this
      have b0 : decide (1048576 < c0) = false := by have := (inR_true h0.out).2; simpa using this
      have a1 : decide (c1 < 0) = true := by simpa using k
      clear k
      go_enter Try.func5, Try.ntmps5
      go_wp2
      go_ret
      exact ⟨rfl, (Upd.refl _ _).alloc _⟩
    · have ho : okC c0 c1 c2 c3 c4 c5 c6 c7 c8 = false := by simp [okC, h0.out, h1.out]
      rw [ho]; clear ho
      have a0 : decide (c0 < 1) = false := by have := (inR_true h0.out).1; simpa using this
      have b0 : decide (1048576 < c0) = false := by have := (inR_true h0.out).2; simpa using this
      have a1 : decide (c1 < 0) = false := by simpa using k
      have b1 : decide (1099511627775 < c1) = true := by have := h1.out; simp [inR] at this; simp; omega
      clear k
      go_enter Try.func5, Try.ntmps5
      go_wp2
      go_ret
      exact ⟨rfl, (Upd.refl _ _).alloc _⟩
  rcases Bool.eq_false_or_eq_true (inR c2 0 1099511627775) with h | h <;> have h2 := Lib.hid h <;> clear h
  rotate_left
  · by_cases k : c2 < 0
    · have ho : okC c0 c1 c2 c3 c4 c5 c6 c7 c8 = false := by simp [okC, h0.out, h1.out, h2.out]
      rw [ho]; clear ho
      have a0 : decide (c0 < 1) = false := by have := (inR_true h0.out).1; simpa using this
      have b0 : decide (1048576 < c0) = false := by have := (inR_true h0.out).2; simpa using this
      have a1 : decide (c1 < 0) = false := by have := (inR_true h1.out).1; simpa using this
      have b1 : decide (1099511627775 < c1) = false := by have := (inR_true h1.out).2; simpa using this
      have a2 : decide (c2 < 0) = true := by simpa using k
      clear k
      go_enter Try.func5, Try.ntmps5
      go_wp2
      go_ret
      exact ⟨rfl, (Upd.refl _ _).alloc _⟩
    · have ho : okC c0 c1 c2 c3 c4 c5 c6 c7 c8 = false := by simp [okC, h0.out, h1.out, h2.out]
      rw [ho]; clear ho
      have a0 : decide (c0 < 1) = false := by have := (inR_true h0.out).1; simpa using this
      have b0 : decide (1048576 < c0) = false := by have := (inR_true h0.out).2; simpa using this
      have a1 : decide (c1 < 0) = false := by have := (inR_true h1.out).1; simpa using this
      have b1 : decide (1099511627775 < c1) = false := by have := (inR_true h1.out).2; simpa using this
      have a2 : decide (c2 < 0) = false := by simpa using k
      have b2 : decide (1099511627775 < c2) = true := by have := h2.out; simp [inR] at this; simp; omega
      clear k
      go_enter Try.func5, Try.ntmps5
      go_wp2
      go_ret
      exact ⟨rfl, (Upd.refl _ _).alloc _⟩
  rcases Bool.eq_false_or_eq_true (inR c3 1 1099511627775) with h | h <;> have h3 := Lib.hid h <;> clear h
  rotate_left
  · by_cases k : c3 < 1
    · have ho : okC c0 c1 c2 c3 c4 c5 c6 c7 c8 = false := by simp [okC, h0.out, h1.out, h2.out, h3.out]
      rw [ho]; clear ho
      have a0 : decide (c0 < 1) = false := by have := (inR_true h0.out).1; simpa using this
      have b0 : decide (1048576 < c0) = false := by have := (inR_true h0.out).2; simpa using this
      have a1 : decide (c1 < 0) = false := by have := (inR_true h1.out).1; simpa using this
      have b1 : decide (1099511627775 < c1) = false := by have := (inR_true h1.out).2; simpa using this
      have a2 : decide (c2 < 0) = false := by have := (inR_true h2.out).1; simpa using this
      have b2 : decide (1099511627775 < c2) = false := by have := (inR_true h2.out).2; simpa using this
      have a3 : decide (c3 < 1) = true := by simpa using k
      clear k
      go_enter Try.func5, Try.ntmps5
      go_wp2
      go_ret
      exact ⟨rfl, (Upd.refl _ _).alloc _⟩
    · have ho : okC c0 c1 c2 c3 c4 c5 c6 c7 c8 = false := by simp [okC, h0.out, h1.out, h2.out, h3.out]
      rw [ho]; clear ho
      have a0 : decide (c0 < 1) = false := by have := (inR_true h0.out).1; simpa using this
      have b0 : decide (1048576 < c0) = false := by have := (inR_true h0.out).2; simpa using this
      have a1 : decide (c1 < 0) = false := by have := (inR_true h1.out).1; simpa using this
      have b1 : decide (1099511627775 < c1) = false := by have := (inR_true h1.out).2; simpa using this
      have a2 : decide (c2 < 0) = false := by have := (inR_true h2.out).1; simpa using this
      have b2 : decide (1099511627775 < c2) = false := by have := (inR_true h2.out).2; simpa using this
      have a3 : decide (c3 < 1) = false := by simpa using k
      have b3 : decide (1099511627775 < c3) = true := by have := h3.out; simp [inR] at this; simp; omega
      clear k
      go_enter Try.func5, Try.ntmps5
      go_wp2
      go_ret
      exact ⟨rfl, (Upd.refl _ _).alloc _⟩
  rcases Bool.eq_false_or_eq_true (inR c4 1 1024) with h | h <;> have h4 := Lib.hid h <;> clear h
  rotate_left
  · by_cases k : c4 < 1
    · have ho : okC c0 c1 c2 c3 c4 c5 c6 c7 c8 = false := by simp [okC, h0.out, h1.out, h2.out, h3.out, h4.out]
      rw [ho]; clear ho
      have a0 : decide (c0 < 1) = false := by have := (inR_true h0.out).1; simpa using this
      have b0 : decide (1048576 < c0) = false := by have := (inR_true h0.out).2; simpa using this
      have a1 : decide (c1 < 0) = false := by have := (inR_true h1.out).1; simpa using this
      have b1 : decide (1099511627775 < c1) = false := by have := (inR_true h1.out).2; simpa using this
      have a2 : decide (c2 < 0) = false := by have := (inR_true h2.out).1; simpa using this
      have b2 : decide (1099511627775 < c2) = false := by have := (inR_true h2.out).2; simpa using this
      have a3 : decide (c3 < 1) = false := by have := (inR_true h3.out).1; simpa using this
      have b3 : decide (1099511627775 < c3) = false := by have := (inR_true h3.out).2; simpa using this
      have a4 : decide (c4 < 1) = true := by simpa using k
      clear k
      go_enter Try.func5, Try.ntmps5
      go_wp2
      go_ret
      exact ⟨rfl, (Upd.refl _ _).alloc _⟩
    · have ho : okC c0 c1 c2 c3 c4 c5 c6 c7 c8 = false := by simp [okC, h0.out, h1.out, h2.out, h3.out, h4.out]
      rw [ho]; clear ho
      have a0 : decide (c0 < 1) = false := by have := (inR_true h0.out).1; simpa using this
      have b0 : decide (1048576 < c0) = false := by have := (inR_true h0.out).2; simpa using this
      have a1 : decide (c1 < 0) = false := by have := (inR_true h1.out).1; simpa using this
      have b1 : decide (1099511627775 < c1) = false := by have := (inR_true h1.out).2; simpa using this
      have a2 : decide (c2 < 0) = false := by have := (inR_true h2.out).1; simpa using this
      have b2 : decide (1099511627775 < c2) = false := by have := (inR_true h2.out).2; simpa using this
      have a3 : decide (c3 < 1) = false := by have := (inR_true h3.out).1; simpa using this
      have b3 : decide (1099511627775 < c3) = false := by have := (inR_true h3.out).2; simpa using this
      have a4 : decide (c4 < 1) = false := by simpa using k
      have b4 : decide (1024 < c4) = true := by have := h4.out; simp [inR] at this; simp; omega
      clear k
      go_enter Try.func5, Try.ntmps5
      go_wp2
      go_ret
      exact ⟨rfl, (Upd.refl _ _).alloc _⟩
  rcases Bool.eq_false_or_eq_true (inR c5 1 65536) with h | h <;> have h5 := Lib.hid h <;> clear h
  rotate_left
  · by_cases k : c5 < 1
    · have ho : okC c0 c1 c2 c3 c4 c5 c6 c7 c8 = false := by simp [okC, h0.out, h1.out, h2.out, h3.out, h4.out, h5.out]
      rw [ho]; clear ho
      have a0 : decide (c0 < 1) = false := by have := (inR_true h0.out).1; simpa using this
      have b0 : decide (1048576 < c0) = false := by have := (inR_true h0.out).2; simpa using this
      have a1 : decide (c1 < 0) = false := by have := (inR_true h1.out).1; simpa using this
      have b1 : decide (1099511627775 < c1) = false := by have := (inR_true h1.out).2; simpa using this
      have a2 : decide (c2 < 0) = false := by have := (inR_true h2.out).1; simpa using this
      have b2 : decide (1099511627775 < c2) = false := by have := (inR_true h2.out).2; simpa using this
      have a3 : decide (c3 < 1) = false := by have := (inR_true h3.out).1; simpa using this
      have b3 : decide (1099511627775 < c3) = false := by have := (inR_true h3.out).2; simpa using this
      have a4 : decide (c4 < 1) = false := by have := (inR_true h4.out).1; simpa using this
      have b4 : decide (1024 < c4) = false := by have := (inR_true h4.out).2; simpa using this
      have a5 : decide (c5 < 1) = true := by simpa using k
      clear k
      go_enter Try.func5, Try.ntmps5
      go_wp2
      go_ret
      exact ⟨rfl, (Upd.refl _ _).alloc _⟩
    · have ho : okC c0 c1 c2 c3 c4 c5 c6 c7 c8 = false := by simp [okC, h0.out, h1.out, h2.out, h3.out, h4.out, h5.out]
      rw [ho]; clear ho
      have a0 : decide (c0 < 1) = false := by have := (inR_true h0.out).1; simpa using this
      have b0 : decide (1048576 < c0) = false := by have := (inR_true h0.out).2; simpa using this
      have a1 : decide (c1 < 0) = false := by have := (inR_true h1.out).1; simpa using this
      have b1 : decide (1099511627775 < c1) = false := by have := (inR_true h1.out).2; simpa using this
      have a2 : decide (c2 < 0) = false := by have := (inR_true h2.out).1; simpa using this
      have b2 : decide (1099511627775 < c2) = false := by have := (inR_true h2.out).2; simpa using this
      have a3 : decide (c3 < 1) = false := by have := (inR_true h3.out).1; simpa using this
      have b3 : decide (1099511627775 < c3) = false := by have := (inR_true h3.out).2; simpa using this
      have a4 : decide (c4 < 1) = false := by have := (inR_true h4.out).1; simpa using this
      have b4 : decide (1024 < c4) = false := by have := (inR_true h4.out).2; simpa using this
      have a5 : decide (c5 < 1) = false := by simpa using k
      have b5 : decide (65536 < c5) = true := by have := h5.out; simp [inR] at this; simp; omega
      clear k
      go_enter Try.func5, Try.ntmps5
      go_wp2
      go_ret
      exact ⟨rfl, (Upd.refl _ _).alloc _⟩
  rcases Bool.eq_false_or_eq_true (inR c6 1 65536) with h | h <;> have h6 := Lib.hid h <;> clear h
  rotate_left
  · by_cases k : c6 < 1
    · have ho : okC c0 c1 c2 c3 c4 c5 c6 c7 c8 = false := by simp [okC, h0.out, h1.out, h2.out, h3.out, h4.out, h5.out, h6.out]
      rw [ho]; clear ho
      have a0 : decide (c0 < 1) = false := by have := (inR_true h0.out).1; simpa using this
      have b0 : decide (1048576 < c0) = false := by have := (inR_true h0.out).2; simpa using this
      have a1 : decide (c1 < 0) = false := by have := (inR_true h1.out).1; simpa using this
      have b1 : decide (1099511627775 < c1) = false := by have := (inR_true h1.out).2; simpa using this
      have a2 : decide (c2 < 0) = false := by have := (inR_true h2.out).1; simpa using this
      have b2 : decide (1099511627775 < c2) = false := by have := (inR_true h2.out).2; simpa using this
      have a3 : decide (c3 < 1) = false := by have := (inR_true h3.out).1; simpa using this
      have b3 : decide (1099511627775 < c3) = false := by have := (inR_true h3.out).2; simpa using this
      have a4 : decide (c4 < 1) = false := by have := (inR_true h4.out).1; simpa using this
      have b4 : decide (1024 < c4) = false := by have := (inR_true h4.out).2; simpa using this
      have a5 : decide (c5 < 1) = false := by have := (inR_true h5.out).1; simpa using this
      have b5 : decide (65536 < c5) = false := by have := (inR_true h5.out).2; simpa using this
      have a6 : decide (c6 < 1) = true := by simpa using k
      clear k
      go_enter Try.func5, Try.ntmps5
      go_wp2
      go_ret
      exact ⟨rfl, (Upd.refl _ _).alloc _⟩
    · have ho : okC c0 c1 c2 c3 c4 c5 c6 c7 c8 = false := by simp [okC, h0.out, h1.out, h2.out, h3.out, h4.out, h5.out, h6.out]
      rw [ho]; clear ho
      have a0 : decide (c0 < 1) = false := by have := (inR_true h0.out).1; simpa using this
      have b0 : decide (1048576 < c0) = false := by have := (inR_true h0.out).2; simpa using this
      have a1 : decide (c1 < 0) = false := by have := (inR_true h1.out).1; simpa using this
      have b1 : decide (1099511627775 < c1) = false := by have := (inR_true h1.out).2; simpa using this
      have a2 : decide (c2 < 0) = false := by have := (inR_true h2.out).1; simpa using this
      have b2 : decide (1099511627775 < c2) = false := by have := (inR_true h2.out).2; simpa using this
      have a3 : decide (c3 < 1) = false := by have := (inR_true h3.out).1; simpa using this
      have b3 : decide (1099511627775 < c3) = false := by have := (inR_true h3.out).2; simpa using this
      have a4 : decide (c4 < 1) = false := by have := (inR_true h4.out).1; simpa using this
      have b4 : decide (1024 < c4) = false := by have := (inR_true h4.out).2; simpa using this
      have a5 : decide (c5 < 1) = false := by have := (inR_true h5.out).1; simpa using this
      have b5 : decide (65536 < c5) = false := by have := (inR_true h5.out).2; simpa using this
      have a6 : decide (c6 < 1) = false := by simpa using k
      have b6 : decide (65536 < c6) = true := by have := h6.out; simp [inR] at this; simp; omega
      clear k
      go_enter Try.func5, Try.ntmps5
      go_wp2
      go_ret
      exact ⟨rfl, (Upd.refl _ _).alloc _⟩
  rcases Bool.eq_false_or_eq_true (inR c7 1 16) with h | h <;> have h7 := Lib.hid h <;> clear h
  rotate_left
  · by_cases k : c7 < 1
    · have ho : okC c0 c1 c2 c3 c4 c5 c6 c7 c8 = false := by simp [okC, h0.out, h1.out, h2.out, h3.out, h4.out, h5.out, h6.out, h7.out]
      rw [ho]; clear ho
      have a0 : decide (c0 < 1) = false := by have := (inR_true h0.out).1; simpa using this
      have b0 : decide (1048576 < c0) = false := by have := (inR_true h0.out).2; simpa using this
      have a1 : decide (c1 < 0) = false := by have := (inR_true h1.out).1; simpa using this
      have b1 : decide (1099511627775 < c1) = false := by have := (inR_true h1.out).2; simpa using this
      have a2 : decide (c2 < 0) = false := by have := (inR_true h2.out).1; simpa using this
      have b2 : decide (1099511627775 < c2) = false := by have := (inR_true h2.out).2; simpa using this
      have a3 : decide (c3 < 1) = false := by have := (inR_true h3.out).1; simpa using this
      have b3 : decide (1099511627775 < c3) = false := by have := (inR_true h3.out).2; simpa using this
      have a4 : decide (c4 < 1) = false := by have := (inR_true h4.out).1; simpa using this
      have b4 : decide (1024 < c4) = false := by have := (inR_true h4.out).2; simpa using this
      have a5 : decide (c5 < 1) = false := by have := (inR_true h5.out).1; simpa using this
      have b5 : decide (65536 < c5) = false := by have := (inR_true h5.out).2; simpa using this
      have a6 : decide (c6 < 1) = false := by have := (inR_true h6.out).1; simpa using this
      have b6 : decide (65536 < c6) = false := by have := (inR_true h6.out).2; simpa using this
      have a7 : decide (c7 < 1) = true := by simpa using k
      clear k
      go_enter Try.func5, Try.ntmps5
      go_wp2
      go_ret
      exact ⟨rfl, (Upd.refl _ _).alloc _⟩
    · have ho : okC c0 c1 c2 c3 c4 c5 c6 c7 c8 = false := by simp [okC, h0.out, h1.out, h2.out, h3.out, h4.out, h5.out, h6.out, h7.out]
      rw [ho]; clear ho
      have a0 : decide (c0 < 1) = false := by have := (inR_true h0.out).1; simpa using this
      have b0 : decide (1048576 < c0) = false := by have := (inR_true h0.out).2; simpa using this
      have a1 : decide (c1 < 0) = false := by have := (inR_true h1.out).1; simpa using this
      have b1 : decide (1099511627775 < c1) = false := by have := (inR_true h1.out).2; simpa using this
      have a2 : decide (c2 < 0) = false := by have := (inR_true h2.out).1; simpa using this
      have b2 : decide (1099511627775 < c2) = false := by have := (inR_true h2.out).2; simpa using this
      have a3 : decide (c3 < 1) = false := by have := (inR_true h3.out).1; simpa using this
      have b3 : decide (1099511627775 < c3) = false := by have := (inR_true h3.out).2; simpa using this
      have a4 : decide (c4 < 1) = false := by have := (inR_true h4.out).1; simpa using this
      have b4 : decide (1024 < c4) = false := by have := (inR_true h4.out).2; simpa using this
      have a5 : decide (c5 < 1) = false := by have := (inR_true h5.out).1; simpa using this
      have b5 : decide (65536 < c5) = false := by have := (inR_true h5.out).2; simpa using this
      have a6 : decide (c6 < 1) = false := by have := (inR_true h6.out).1; simpa using this
      have b6 : decide (65536 < c6) = false := by have := (inR_true h6.out).2; simpa using this
      have a7 : decide (c7 < 1) = false := by simpa using k
      have b7 : decide (16 < c7) = true := by have := h7.out; simp [inR] at this; simp; omega
      clear k
      go_enter Try.func5, Try.ntmps5
      go_wp2
      go_ret
      exact ⟨rfl, (Upd.refl _ _).alloc _⟩
  rcases Bool.eq_false_or_eq_true (inR c8 1 1024) with h | h <;> have h8 := Lib.hid h <;> clear h
  rotate_left
  · by_cases k : c8 < 1
    · have ho : okC c0 c1 c2 c3 c4 c5 c6 c7 c8 = false := by simp [okC, h0.out, h1.out, h2.out, h3.out, h4.out, h5.out, h6.out, h7.out, h8.out]
      rw [ho]; clear ho
      have a0 : decide (c0 < 1) = false := by have := (inR_true h0.out).1; simpa using this
      have b0 : decide (1048576 < c0) = false := by have := (inR_true h0.out).2; simpa using this
      have a1 : decide (c1 < 0) = false := by have := (inR_true h1.out).1; simpa using this
      have b1 : decide (1099511627775 < c1) = false := by have := (inR_true h1.out).2; simpa using this
      have a2 : decide (c2 < 0) = false := by have := (inR_true h2.out).1; simpa using this
      have b2 : decide (1099511627775 < c2) = false := by have := (inR_true h2.out).2; simpa using this
      have a3 : decide (c3 < 1) = false := by have := (inR_true h3.out).1; simpa using this
      have b3 : decide (1099511627775 < c3) = false := by have := (inR_true h3.out).2; simpa using this
      have a4 : decide (c4 < 1) = false := by have := (inR_true h4.out).1; simpa using this
      have b4 : decide (1024 < c4) = false := by have := (inR_true h4.out).2; simpa using this
      have a5 : decide (c5 < 1) = false := by have := (inR_true h5.out).1; simpa using this
      have b5 : decide (65536 < c5) = false := by have := (inR_true h5.out).2; simpa using this
      have a6 : decide (c6 < 1) = false := by have := (inR_true h6.out).1; simpa using this
      have b6 : decide (65536 < c6) = false := by have := (inR_true h6.out).2; simpa using this
      have a7 : decide (c7 < 1) = false := by have := (inR_true h7.out).1; simpa using this
      have b7 : decide (16 < c7) = false := by have := (inR_true h7.out).2; simpa using this
      have a8 : decide (c8 < 1) = true := by simpa using k
      clear k
      go_enter Try.func5, Try.ntmps5
      go_wp2
      go_ret
      exact ⟨rfl, (Upd.refl _ _).alloc _⟩
    · have ho : okC c0 c1 c2 c3 c4 c5 c6 c7 c8 = false := by simp [okC, h0.out, h1.out, h2.out, h3.out, h4.out, h5.out, h6.out, h7.out, h8.out]
      rw [ho]; clear ho
      have a0 : decide (c0 < 1) = false := by have := (inR_true h0.out).1; simpa using this
      have b0 : decide (1048576 < c0) = false := by have := (inR_true h0.out).2; simpa using this
      have a1 : decide (c1 < 0) = false := by have := (inR_true h1.out).1; simpa using this
      have b1 : decide (1099511627775 < c1) = false := by have := (inR_true h1.out).2; simpa using this
      have a2 : decide (c2 < 0) = false := by have := (inR_true h2.out).1; simpa using this
      have b2 : decide (1099511627775 < c2) = false := by have := (inR_true h2.out).2; simpa using this
      have a3 : decide (c3 < 1) = false := by have := (inR_true h3.out).1; simpa using this
      have b3 : decide (1099511627775 < c3) = false := by have := (inR_true h3.out).2; simpa using this
      have a4 : decide (c4 < 1) = false := by have := (inR_true h4.out).1; simpa using this
      have b4 : decide (1024 < c4) = false := by have := (inR_true h4.out).2; simpa using this
      have a5 : decide (c5 < 1) = false := by have := (inR_true h5.out).1; simpa using this
      have b5 : decide (65536 < c5) = false := by have := (inR_true h5.out).2; simpa using this
      have a6 : decide (c6 < 1) = false := by have := (inR_true h6.out).1; simpa using this
      have b6 : decide (65536 < c6) = false := by have := (inR_true h6.out).2; simpa using this
      have a7 : decide (c7 < 1) = false := by have := (inR_true h7.out).1; simpa using this
      have b7 : decide (16 < c7) = false := by have := (inR_true h7.out).2; simpa using this
      have a8 : decide (c8 < 1) = false := by simpa using k
      have b8 : decide (1024 < c8) = true := by have := h8.out; simp [inR] at this; simp; omega
      clear k
      go_enter Try.func5, Try.ntmps5
      go_wp2
      go_ret
      exact ⟨rfl, (Upd.refl _ _).alloc _⟩
  have ho : okC c0 c1 c2 c3 c4 c5 c6 c7 c8 = true := by simp [okC, h0.out, h1.out, h2.out, h3.out, h4.out, h5.out, h6.out, h7.out, h8.out]
  rw [ho]; clear ho
  have a0 : decide (c0 < 1) = false := by have := (inR_true h0.out).1; simpa using this
  have b0 : decide (1048576 < c0) = false := by have := (inR_true h0.out).2; simpa using this
  have a1 : decide (c1 < 0) = false := by have := (inR_true h1.out).1; simpa using this
  have b1 : decide (1099511627775 < c1) = false := by have := (inR_true h1.out).2; simpa using this
  have a2 : decide (c2 < 0) = false := by have := (inR_true h2.out).1; simpa using this
  have b2 : decide (1099511627775 < c2) = false := by have := (inR_true h2.out).2; simpa using this
  have a3 : decide (c3 < 1) = false := by have := (inR_true h3.out).1; simpa using this
  have b3 : decide (1099511627775 < c3) = false := by have := (inR_true h3.out).2; simpa using this
  have a4 : decide (c4 < 1) = false := by have := (inR_true h4.out).1; simpa using this
  have b4 : decide (1024 < c4) = false := by have := (inR_true h4.out).2; simpa using this
  have a5 : decide (c5 < 1) = false := by have := (inR_true h5.out).1; simpa using this
  have b5 : decide (65536 < c5) = false := by have := (inR_true h5.out).2; simpa using this
  have a6 : decide (c6 < 1) = false := by have := (inR_true h6.out).1; simpa using this
  have b6 : decide (65536 < c6) = false := by have := (inR_true h6.out).2; simpa using this
  have a7 : decide (c7 < 1) = false := by have := (inR_true h7.out).1; simpa using this
  have b7 : decide (16 < c7) = false := by have := (inR_true h7.out).2; simpa using this
  have a8 : decide (c8 < 1) = false := by have := (inR_true h8.out).1; simpa using this
  have b8 : decide (1024 < c8) = false := by have := (inR_true h8.out).2; simpa using this
  go_enter Try.func5, Try.ntmps5
  go_wp2
  go_ret
  exact ⟨rfl, (Upd.refl _ _).alloc _⟩
end Go.Proofs.Ytidgkgmoajkekaa
