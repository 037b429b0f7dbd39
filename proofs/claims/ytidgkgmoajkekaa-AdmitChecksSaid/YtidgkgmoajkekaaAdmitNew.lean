/- admit.New: what it gives. The law's own walk: AdmitChecks. -/
import Derived.Test.YtidgkgmoajkekaaChecks
import Derived.Test.YtidgkgmoajkekaaLift
import Derived.Carry
set_option linter.unusedVariables false
set_option linter.unusedSimpArgs false
namespace Go.Proofs.Ytidgkgmoajkekaa
open Go.RowKit

theorem dueNew_calls (n : Int) (h1 : 1 ≤ n) (h2 : n ≤ 65536) (w : World) :
    Calls Try.prog 11 #[.int .i64 n] w fun e w' => ∃ p, e = .returned (.tuple #[.pointer (some p), .int .i64 0]) ∧ Upd [] w w' := by
  have e1 : decide (n < 1) = false := by simpa using h1
  have e2 : decide (65536 < n) = false := by simpa using h2
  have hmm := @run_makeMap Try.prog
  go_enter Try.func11, Try.ntmps11
  go_wp2
  go_ret2
  exact ⟨_, rfl, ((Upd.refl _ _).alloc _).alloc _⟩
theorem second_calls (x : Int) (h1 : 0 ≤ x) (h2 : x ≤ 1099511627775) (w : World) :
    Calls Try.prog 10 #[.int .i64 x] w fun e w' => e = .returned (.bool true) ∧ w' = w := by
  go_enter Try.func10, Try.ntmps10
  go_wp2
  go_ret
  exact ⟨rfl, rfl⟩
theorem sourceNew_calls (n late idle : Int) (h1 : 1 ≤ n) (h2 : n ≤ 1024) (h3 : 0 ≤ late) (h4 : late ≤ 1099511627775) (h5 : 1 ≤ idle) (h6 : idle ≤ 1099511627775) (w : World) :
    Calls Try.prog 8 #[.int .i64 n, .int .i64 late, .int .i64 idle] w fun e w' => ∃ p, e = .returned (.tuple #[.pointer (some p), .int .i64 0]) ∧ Upd [] w w' := by
  have e1 : decide (n < 1) = false := by simpa using h1
  have e2 : decide (1024 < n) = false := by simpa using h2
  have e3 : decide (idle < 1) = false := by simpa using h5
  have hmm := @run_makeMap Try.prog
  go_enter Try.func8, Try.ntmps8
  go_wp2_with (go_at_call 10; refine (second_calls _ (by omega) (by omega) _).mono ?_; rintro e w' ⟨rfl, rfl⟩)
  go_wp2_with fail
  refine (dueNew_calls n h1 (by omega) _).mono ?_
  rintro e w1 ⟨p, rfl, hU⟩
  have HU := Lib.hid hU
  clear hU
  go_wp2
  go_ret2
  exact ⟨_, rfl, (HU.out.alloc _).alloc _⟩
set_option maxHeartbeats 1000000 in
theorem admitNew_calls (c0 c1 c2 c3 c4 c5 c6 c7 c8 : Int) (w : World) : Calls Try.prog 4 #[.agg #[.int .i64 c0, .int .i64 c1, .int .i64 c2, .int .i64 c3, .int .i64 c4, .int .i64 c5, .int .i64 c6, .int .i64 c7, .int .i64 c8]] w
    fun e w' => ∃ p, e = .returned (.tuple #[.pointer p, .int .i64 (if okC c0 c1 c2 c3 c4 c5 c6 c7 c8 = true then 0 else 120)]) ∧ p.isSome = okC c0 c1 c2 c3 c4 c5 c6 c7 c8 ∧ Upd [] w w' := by
  have hmm := @run_makeMap Try.prog
  rcases Bool.eq_false_or_eq_true (okC c0 c1 c2 c3 c4 c5 c6 c7 c8) with h | h
  · have hb := h
    simp only [okC, Bool.and_eq_true] at hb
    obtain ⟨⟨⟨⟨⟨⟨⟨⟨k0, k1⟩, k2⟩, k3⟩, k4⟩, k5⟩, k6⟩, k7⟩, k8⟩ := hb
    have k1' := inR_true k1
    have k3' := inR_true k3
    have k4' := inR_true k4
    have HC := Lib.hid (check_calls c0 c1 c2 c3 c4 c5 c6 c7 c8)
    have HS := Lib.hid (sourceNew_calls c4 c1 c3 k4'.1 k4'.2 k1'.1 k1'.2 k3'.1 k3'.2)
    rw [h] at *
    have HE := Lib.hid h
    clear k0 k1 k2 k3 k4 k5 k6 k7 k8 h k1' k3' k4'
    go_enter Try.func4, Try.ntmps4
    go_wp2_with fail
    refine (HC.out _).mono ?_
    rintro e w1 ⟨rfl, hU⟩
    have hc := Lib.hid (((HB.new w 23 [.int .i64 c0, .int .i64 c1, .int .i64 c2, .int .i64 c3, .int .i64 c4, .int .i64 c5, .int .i64 c6, .int .i64 c7, .int .i64 c8]).upd hU (by simp)))
    have HU := Lib.hid (((Upd.refl [] w).alloc _).then hU)
    clear hU
    have y1 := hc.out.cell (j := 1) rfl
    have y3 := hc.out.cell (j := 3) rfl
    have y4 := hc.out.cell (j := 4) rfl
    go_wp2_with fail
    refine (HS.out _).mono ?_
    rintro e w2 ⟨p, rfl, hU⟩
    have hc2 := hc.out.upd hU (by simp)
    clear y1 y3 y4
    have y0 := hc2.cell (j := 0) rfl
    have y1 := hc2.cell (j := 1) rfl
    have y2 := hc2.cell (j := 2) rfl
    have y3 := hc2.cell (j := 3) rfl
    have y4 := hc2.cell (j := 4) rfl
    have y5 := hc2.cell (j := 5) rfl
    have y6 := hc2.cell (j := 6) rfl
    have y7 := hc2.cell (j := 7) rfl
    have y8 := hc2.cell (j := 8) rfl
    have HU2 := Lib.hid (HU.out.then hU)
    clear hU hc2
    go_wp2
    go_ret2
    exact ⟨_, rfl, rfl, ((HU2.out.alloc _).alloc _).alloc _⟩
  · have HC := Lib.hid (check_calls c0 c1 c2 c3 c4 c5 c6 c7 c8)
    rw [h] at *
    have HE := Lib.hid h
    clear h
    go_enter Try.func4, Try.ntmps4
    go_wp2_with fail
    refine (HC.out _).mono ?_
    rintro e w1 ⟨rfl, hU⟩
    have HU := Lib.hid (((Upd.refl [] w).alloc _).then hU)
    clear hU
    go_wp2
    go_ret2
    exact ⟨_, rfl, rfl, HU.out⟩
theorem small_calls (w : World) : Calls Try.prog 7 #[] w fun e w' => e = .returned (.agg #[.int .i64 10, .int .i64 5, .int .i64 100, .int .i64 60, .int .i64 2, .int .i64 2, .int .i64 1, .int .i64 1, .int .i64 1]) ∧ Upd [] w w' := by
  go_enter Try.func7, Try.ntmps7
  go_wp2
  have hb := HB.new w 23 [.int .i64 10, .int .i64 5, .int .i64 100, .int .i64 60, .int .i64 2, .int .i64 2, .int .i64 1, .int .i64 1, .int .i64 1]
  have y0 := hb.cell (j := 0) rfl
  have y1 := hb.cell (j := 1) rfl
  have y2 := hb.cell (j := 2) rfl
  have y3 := hb.cell (j := 3) rfl
  have y4 := hb.cell (j := 4) rfl
  have y5 := hb.cell (j := 5) rfl
  have y6 := hb.cell (j := 6) rfl
  have y7 := hb.cell (j := 7) rfl
  have y8 := hb.cell (j := 8) rfl
  refine bodyPost_ret (v := .agg #[.int .i64 10, .int .i64 5, .int .i64 100, .int .i64 60, .int .i64 2, .int .i64 2, .int .i64 1, .int .i64 1, .int .i64 1]) ?_ rfl ⟨rfl, (Upd.refl _ _).alloc _⟩
  simp [results, Try.f7, go_sem]

abbrev gI : GT := .int .i64
abbrev gConfig : GT := .struct (.cons gI (.cons gI (.cons gI (.cons gI (.cons gI (.cons gI (.cons gI (.cons gI (.cons gI .nil)))))))))
theorem open_config {w : World} {F : Nat → Prop} {cs : List Value} {x : gConfig.den} (h : Rd w F gConfig cs x) :
    ∃ c0 c1 c2 c3 c4 c5 c6 c7 c8 : Int, cs = [.int .i64 c0, .int .i64 c1, .int .i64 c2, .int .i64 c3, .int .i64 c4, .int .i64 c5, .int .i64 c6, .int .i64 c7, .int .i64 c8] := by
  obtain ⟨_, _, rfl, ⟨rfl, _⟩, _, _, rfl, ⟨rfl, _⟩, _, _, rfl, ⟨rfl, _⟩, _, _, rfl, ⟨rfl, _⟩, _, _, rfl, ⟨rfl, _⟩, _, _, rfl, ⟨rfl, _⟩, _, _, rfl, ⟨rfl, _⟩, _, _, rfl, ⟨rfl, _⟩, _, _, rfl, ⟨rfl, _⟩, rfl⟩ := h
  exact ⟨_, _, _, _, _, _, _, _, _, rfl⟩
set_option maxHeartbeats 2000000 in
theorem admitChecks_calls (cs : List Value) (x : gConfig.den) (W : World) (h : Rd W (· < W.heap.size) gConfig cs x) :
    Calls Try.prog 3 #[GT.val gConfig cs] W fun e w' => e = .returned (.bool true) ∧ Upd [] W w' := by
  obtain ⟨c0, c1, c2, c3, c4, c5, c6, c7, c8, rfl⟩ := open_config h
  clear h
  show Calls Try.prog 3 #[.agg #[.int .i64 c0, .int .i64 c1, .int .i64 c2, .int .i64 c3, .int .i64 c4, .int .i64 c5, .int .i64 c6, .int .i64 c7, .int .i64 c8]] W _
  have HN := Lib.hid (admitNew_calls c0 c1 c2 c3 c4 c5 c6 c7 c8)
  have HC := Lib.hid (check_calls c0 c1 c2 c3 c4 c5 c6 c7 c8)
  have HR := Lib.hid (rcheck_calls c0 c1 c2 c3 c4 c5 c6 c7 c8)
  have HS := Lib.hid (check_calls 10 5 100 60 2 2 1 1 1)
  have HZ := Lib.hid (check_calls 0 0 0 0 0 0 0 0 0)
  rw [show okC 10 5 100 60 2 2 1 1 1 = true from rfl] at HS
  rw [show okC 0 0 0 0 0 0 0 0 0 = false from rfl] at HZ
  simp only [Bool.false_eq_true, if_true, if_false] at HS HZ
  rcases Bool.eq_false_or_eq_true (okC c0 c1 c2 c3 c4 c5 c6 c7 c8) with h | h <;> rw [h] at HN HC HR <;> simp only [Bool.false_eq_true, if_true, if_false] at HN HC HR <;> clear h
  · go_enter Try.func3, Try.ntmps3
    go_wp2_with fail
    refine (HN.out _).mono ?_
    rintro e w1 ⟨p, rfl, hp, hU⟩
    have HB1 := Lib.hid ((HB.new W 23 [.int .i64 c0, .int .i64 c1, .int .i64 c2, .int .i64 c3, .int .i64 c4, .int .i64 c5, .int .i64 c6, .int .i64 c7, .int .i64 c8]).upd hU (by simp))
    have HU1 := Lib.hid (((Upd.refl [] W).alloc _).then hU)
    clear hU
    obtain ⟨a, rfl⟩ : ∃ a, p = some a := by
      cases p with
      | none => simp at hp
      | some a => exact ⟨a, rfl⟩
    clear hp
    have y0 := HB1.out.cell (j := 0) rfl
    have y1 := HB1.out.cell (j := 1) rfl
    have y2 := HB1.out.cell (j := 2) rfl
    have y3 := HB1.out.cell (j := 3) rfl
    have y4 := HB1.out.cell (j := 4) rfl
    have y5 := HB1.out.cell (j := 5) rfl
    have y6 := HB1.out.cell (j := 6) rfl
    have y7 := HB1.out.cell (j := 7) rfl
    have y8 := HB1.out.cell (j := 8) rfl
    go_wp2_with fail
    refine (HR.out _).mono ?_
    rintro e w2 ⟨rfl, hU⟩
    have HB2 := Lib.hid (HB1.out.upd hU (by simp))
    have HU2 := Lib.hid (HU1.out.then hU)
    clear hU y0 y1 y2 y3 y4 y5 y6 y7 y8
    have y0 := HB2.out.cell (j := 0) rfl
    have y1 := HB2.out.cell (j := 1) rfl
    have y2 := HB2.out.cell (j := 2) rfl
    have y3 := HB2.out.cell (j := 3) rfl
    have y4 := HB2.out.cell (j := 4) rfl
    have y5 := HB2.out.cell (j := 5) rfl
    have y6 := HB2.out.cell (j := 6) rfl
    have y7 := HB2.out.cell (j := 7) rfl
    have y8 := HB2.out.cell (j := 8) rfl
    go_wp2_with fail
    refine (HC.out _).mono ?_
    rintro e w3 ⟨rfl, hU⟩
    have HU3 := Lib.hid (HU2.out.then hU)
    clear hU y0 y1 y2 y3 y4 y5 y6 y7 y8
    go_wp2_with fail
    refine (small_calls _).mono ?_
    rintro e w4 ⟨rfl, hU⟩
    have HU4 := Lib.hid (HU3.out.then hU)
    clear hU
    go_wp2_with fail
    refine (HS.out _).mono ?_
    rintro e w5 ⟨rfl, hU⟩
    have HU5 := Lib.hid (HU4.out.then hU)
    clear hU
    go_wp2_with fail
    refine (HZ.out _).mono ?_
    rintro e w6 ⟨rfl, hU⟩
    have HU6 := Lib.hid (HU5.out.then hU)
    clear hU
    go_wp2
    go_ret
    exact ⟨rfl, HU6.out⟩
  · go_enter Try.func3, Try.ntmps3
    go_wp2_with fail
    refine (HN.out _).mono ?_
    rintro e w1 ⟨p, rfl, hp, hU⟩
    have HB1 := Lib.hid ((HB.new W 23 [.int .i64 c0, .int .i64 c1, .int .i64 c2, .int .i64 c3, .int .i64 c4, .int .i64 c5, .int .i64 c6, .int .i64 c7, .int .i64 c8]).upd hU (by simp))
    have HU1 := Lib.hid (((Upd.refl [] W).alloc _).then hU)
    clear hU
    obtain rfl : p = none := by
      cases p with
      | none => rfl
      | some a => simp at hp
    clear hp
    have y0 := HB1.out.cell (j := 0) rfl
    have y1 := HB1.out.cell (j := 1) rfl
    have y2 := HB1.out.cell (j := 2) rfl
    have y3 := HB1.out.cell (j := 3) rfl
    have y4 := HB1.out.cell (j := 4) rfl
    have y5 := HB1.out.cell (j := 5) rfl
    have y6 := HB1.out.cell (j := 6) rfl
    have y7 := HB1.out.cell (j := 7) rfl
    have y8 := HB1.out.cell (j := 8) rfl
    go_wp2_with fail
    refine (HR.out _).mono ?_
    rintro e w2 ⟨rfl, hU⟩
    have HB2 := Lib.hid (HB1.out.upd hU (by simp))
    have HU2 := Lib.hid (HU1.out.then hU)
    clear hU y0 y1 y2 y3 y4 y5 y6 y7 y8
    have y0 := HB2.out.cell (j := 0) rfl
    have y1 := HB2.out.cell (j := 1) rfl
    have y2 := HB2.out.cell (j := 2) rfl
    have y3 := HB2.out.cell (j := 3) rfl
    have y4 := HB2.out.cell (j := 4) rfl
    have y5 := HB2.out.cell (j := 5) rfl
    have y6 := HB2.out.cell (j := 6) rfl
    have y7 := HB2.out.cell (j := 7) rfl
    have y8 := HB2.out.cell (j := 8) rfl
    go_wp2_with fail
    refine (HC.out _).mono ?_
    rintro e w3 ⟨rfl, hU⟩
    have HU3 := Lib.hid (HU2.out.then hU)
    clear hU y0 y1 y2 y3 y4 y5 y6 y7 y8
    go_wp2_with fail
    refine (small_calls _).mono ?_
    rintro e w4 ⟨rfl, hU⟩
    have HU4 := Lib.hid (HU3.out.then hU)
    clear hU
    go_wp2_with fail
    refine (HS.out _).mono ?_
    rintro e w5 ⟨rfl, hU⟩
    have HU5 := Lib.hid (HU4.out.then hU)
    clear hU
    go_wp2_with fail
    refine (HZ.out _).mono ?_
    rintro e w6 ⟨rfl, hU⟩
    have HU6 := Lib.hid (HU5.out.then hU)
    clear hU
    go_wp2
    go_ret
    exact ⟨rfl, HU6.out⟩
end Go.Proofs.Ytidgkgmoajkekaa
