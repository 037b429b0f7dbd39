/- archive.within. -/
import Derived.Test.YtdjpcinibgbglaaFn
import Derived.Test.YtdjpcinibgbglaaMul
set_option linter.unusedVariables false
set_option linter.unusedSimpArgs false
namespace Go.Proofs.Ytdjpcinibgbglaa
open Go.RowKit Go.Sort
set_option maxHeartbeats 2000000 in
theorem within_calls (v s : Int) (w : World) (hv : I128 v) (hs : 1 ≤ s) (hs2 : s ≤ 1099511627775) :
    Calls Try.prog 42 #[wide v, .int .i64 s] w fun e w' => e = .returned (.bool (fitV v s)) ∧ Upd [] w w' := by
  obtain ⟨res, hres⟩ : ∃ res, res = fitV v s := ⟨_, rfl⟩
  rw [← hres]
  have HRES := Lib.hid hres
  clear hres
  have hq : wide 1208925819614629174706176 = .agg #[.int .i64 65536, .int .u64 0] := rfl
  have HOF := Lib.hid (fun Z => of_calls s (by unfold I64; omega) Z)
  have HMU := Lib.hid (fun Z => mul_calls 1208925819614629174706176 s (by unfold I128; omega) (by unfold I128; omega) Z)
  rw [wres_in (z := 1208925819614629174706176 * s) (by unfold I128; omega)] at HMU
  rw [hq] at HMU
  by_cases hbig : I128 (v.natAbs : Int)
  · have HAB := Lib.hid (fun Z => abs_calls v hv Z)
    rw [wres_in hbig] at HAB
    obtain ⟨X, hX⟩ : ∃ X : Int, X = v.natAbs := ⟨_, rfl⟩
    obtain ⟨Y, hY⟩ : ∃ Y : Int, Y = 1208925819614629174706176 * s := ⟨_, rfl⟩
    rw [← hX] at HAB
    rw [← hY] at HMU
    have HRES' := Lib.hid (show res = decide (X ≤ Y) by rw [HRES.out, hX, hY]; rfl)
    clear HRES hX hY hbig hq hv hs hs2
    dsimp only at HAB HMU
    go_enter Try.func42, Try.ntmps42
    go_wp2_with fail
    have hU0 := (Upd.refl [] w).alloc (.cells #[.int .i64 (wh v), .int .u64 (wl v)] 47)
    refine (HAB.out _).mono ?_
    rintro e w1 ⟨rfl, hU1⟩
    have HU1 := Lib.hid (hU0.then hU1)
    clear hU0 hU1
    go_wp2_with fail
    have hN1 := Lib.hid (HB.new w1 47 [.int .i64 (wh X), .int .u64 (wl X)])
    refine (HOF.out _).mono ?_
    rintro e w2 ⟨rfl, hU2⟩
    go_wp2_with fail
    refine (HMU.out _).mono ?_
    rintro e w3 ⟨rfl, hU3⟩
    have HU3 := Lib.hid (((HU1.out.alloc (.cells #[.int .i64 (wh X), .int .u64 (wl X)] 47)).then hU2).then hU3)
    have hN3 := ((hN1.out.upd hU2 (by simp)).upd hU3 (by simp)).alloc (.cells #[.int .i64 (wh Y), .int .u64 (wl Y)] 47)
    have hM3 := HB.new w3 47 [.int .i64 (wh Y), .int .u64 (wl Y)]
    have a0 := hN3.cell (j := 0) rfl
    have a1 := hN3.cell (j := 1) rfl
    have b0 := hM3.cell (j := 0) rfl
    have b1 := hM3.cell (j := 1) rfl
    clear hU2 hU3 hN3 hM3
    go_wp2_with fail
    refine (cmp_calls X Y _).mono ?_
    rintro e w4 ⟨rfl, hU4⟩
    have HU4 := Lib.hid ((HU3.out.alloc _).then hU4)
    clear hU4 a0 a1 b0 b1
    have hc : decide (cmpW X Y ≤ 0) = res := by
      rw [HRES'.out]
      unfold cmpW
      by_cases h1 : X < Y
      · simp [h1]; omega
      · by_cases h2 : X = Y
        · simp [h2]
        · have : ¬ X ≤ Y := by omega
          simp [h1, h2, this]
    clear HRES'
    go_wp2
    go_ret
    exact ⟨rfl, HU4.out⟩
  · have HAB := Lib.hid (fun Z => abs_calls v hv Z)
    rw [wres_out hbig] at HAB
    obtain rfl : false = res := by
      rw [HRES.out]
      unfold fitV
      rw [decide_eq_false]
      unfold I128 at hbig hv
      omega
    obtain ⟨Y, hY⟩ : ∃ Y : Int, Y = 1208925819614629174706176 * s := ⟨_, rfl⟩
    rw [← hY] at HMU
    clear HRES hY hbig hq hv hs hs2
    dsimp only at HAB HMU
    go_enter Try.func42, Try.ntmps42
    go_wp2_with fail
    have hU0 := (Upd.refl [] w).alloc (.cells #[.int .i64 (wh v), .int .u64 (wl v)] 47)
    refine (HAB.out _).mono ?_
    rintro e w1 ⟨rfl, hU1⟩
    have HU1 := Lib.hid (hU0.then hU1)
    clear hU0 hU1
    go_wp2_with fail
    refine (HOF.out _).mono ?_
    rintro e w2 ⟨rfl, hU2⟩
    go_wp2_with fail
    refine (HMU.out _).mono ?_
    rintro e w3 ⟨rfl, hU3⟩
    have HU3 := Lib.hid (((HU1.out.alloc (.cells #[.int .i64 (wh 0), .int .u64 (wl 0)] 47)).then hU2).then hU3)
    clear hU2 hU3
    go_wp2
    go_ret
    exact ⟨rfl, HU3.out.alloc _⟩
end Go.Proofs.Ytdjpcinibgbglaa
