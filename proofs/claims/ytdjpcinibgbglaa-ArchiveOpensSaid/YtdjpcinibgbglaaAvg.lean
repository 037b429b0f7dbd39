/- archive.sum, archive.average. -/
import Derived.Test.YtdjpcinibgbglaaQuo
import Derived.Test.YtdjpcinibgbglaaSum
import Derived.Test.YtdjpcinibgbglaaFn
set_option linter.unusedVariables false
set_option linter.unusedSimpArgs false
namespace Go.Proofs.Ytdjpcinibgbglaa
open Go.RowKit Go.Sort
set_option maxHeartbeats 1000000 in
theorem asum_calls (F : Nat → Prop) (v : Value) (zs : List Int) (w : World) (hr : RowK w F wc 2 v zs) (hz : ∀ z ∈ zs, I128 z) (hn : zs.length ≤ 1048576) (hs : I128 zs.sum) :
    Calls Try.prog 67 #[v] w fun e w' => e = .returned (wide zs.sum) ∧ Upd [] w w' := by
  have hU0 := (Upd.refl [] w).alloc (.cells #[.int .i64 0, .int .u64 0] 47)
  have HS := Lib.hid (fun W (hW : Upd [] w W) => sum_calls v zs F W (hr.upd0 hW) hz hn)
  rw [wres_in hs] at HS
  obtain ⟨X, hX⟩ : ∃ X, X = zs.sum := ⟨_, rfl⟩
  rw [← hX] at HS ⊢
  dsimp only at HS
  clear hX hr hz hn hs
  have hz0 := HB.new w 47 [.int .i64 0, .int .u64 0]
  go_enter Try.func67, Try.ntmps67
  go_wp2_with fail
  refine (HS.out _ hU0).mono ?_
  rintro e w1 ⟨rfl, hU1⟩
  have hz1 := (hz0.upd hU1 (by simp)).alloc (.cells #[.int .i64 (wh X), .int .u64 (wl X)] 47)
  have hn1 := HB.new w1 47 [.int .i64 (wh X), .int .u64 (wl X)]
  have a0 := hz1.cell (j := 0) rfl
  have a1 := hz1.cell (j := 1) rfl
  have af0 := hz1.free 0
  have af1 := hz1.free 1
  have b0 := hn1.cell (j := 0) rfl
  have b1 := hn1.cell (j := 1) rfl
  have HZ1 := Lib.hid hz1
  have HU1 := Lib.hid ((hU0.then hU1).alloc (.cells #[.int .i64 (wh X), .int .u64 (wl X)] 47))
  clear hz1 hn1 hz0 hU0 hU1
  go_wp2
  have hy := (HZ1.out.set 0 (.int .i64 (wh X))).set 1 (.int .u64 (wl X))
  have y0 := hy.cell (j := 0) rfl
  have y1 := hy.cell (j := 1) rfl
  refine bodyPost_ret (v := wide X) ?_ rfl ⟨rfl, ?_⟩
  · simp [results, Try.f67, go_sem, y0, y1]
  · exact (HU1.out.setCell (.inr (by simp)) _).setCell (.inr (by simp)) _
set_option maxHeartbeats 1000000 in
theorem average_calls (F : Nat → Prop) (v : Value) (zs : List Int) (w : World) (hr : RowK w F wc 2 v zs) (hz : ∀ z ∈ zs, I128 z) (hn : zs.length ≤ 1048576) (hs : I128 zs.sum) (hne : zs ≠ []) :
    Calls Try.prog 66 #[v] w fun e w' => e = .returned (wide (zs.sum.tdiv zs.length)) ∧ Upd [] w w' := by
  have hU0 := (Upd.refl [] w).alloc (.cells #[.int .i64 0, .int .u64 0] 47)
  obtain ⟨A, c, rfl, hc1, hc2, hc3⟩ := hr.shape
  have HC1 := Lib.hid hc1
  have HS := Lib.hid (fun W (hW : Upd [] w W) => asum_calls F _ zs W (hr.upd0 hW) hz hn hs)
  have hpos : 1 ≤ zs.length := List.length_pos_iff.2 hne
  have HOF := Lib.hid (fun Z => of_calls (zs.length : Int) (by unfold I64; omega) Z)
  have hq : I128 (zs.sum.tdiv zs.length) := by
    have h1 := Int.natAbs_tdiv_le_natAbs zs.sum zs.length
    unfold I128 at *
    by_cases h2 : zs.sum = -170141183460469231731687303715884105728 ∧ False
    · exact absurd h2.2 id
    · have h3 : zs.sum.tdiv (zs.length : Int) ≤ 170141183460469231731687303715884105727 := by
        by_cases h4 : 0 ≤ zs.sum
        · rw [Int.tdiv_eq_ediv_of_nonneg h4]
          have := ediv_le' h4 (show (1 : Int) ≤ (zs.length : Int) by omega)
          omega
        · have h5 : zs.sum.tdiv (zs.length : Int) ≤ 0 := by
            rw [show zs.sum = -(-zs.sum) by omega, Int.neg_tdiv, Int.tdiv_eq_ediv_of_nonneg (by omega)]
            have := Int.ediv_nonneg (a := -zs.sum) (b := (zs.length : Int)) (by omega) (by omega)
            omega
          omega
      omega
  have HQ := Lib.hid (fun Z => quo_calls zs.sum zs.length hs (by unfold I128; omega) (by omega) hq Z)
  obtain ⟨X, hX⟩ : ∃ X, X = zs.sum := ⟨_, rfl⟩
  obtain ⟨n, hn'⟩ : ∃ n, n = zs.length := ⟨_, rfl⟩
  rw [← hX] at HS HQ ⊢
  rw [← hn'] at HS HOF HQ ⊢
  obtain ⟨Q, hQ⟩ : ∃ Q, Q = X.tdiv n := ⟨_, rfl⟩
  obtain ⟨R, hR⟩ : ∃ R, R = X.tmod n := ⟨_, rfl⟩
  rw [← hQ] at HQ ⊢
  rw [← hR] at HQ
  clear hX hr hz hn hs hQ hR hq hne hc1 hc2 hc3 hn'
  have hz0 := HB.new w 47 [.int .i64 0, .int .u64 0]
  go_enter Try.func66, Try.ntmps66
  go_wp2_with fail
  refine (HS.out _ hU0).mono ?_
  rintro e w1 ⟨rfl, hU1⟩
  go_wp2_with fail
  refine (HOF.out _).mono ?_
  rintro e w2 ⟨rfl, hU2⟩
  go_wp2_with fail
  refine (HQ.out _).mono ?_
  rintro e w3 ⟨rfl, hU3⟩
  have hz1 := ((hz0.upd hU1 (by simp)).upd hU2 (by simp)).upd hU3 (by simp)
  have HU3 := Lib.hid (((hU0.then hU1).then hU2).then hU3)
  have hz4 := (hz1.alloc (.cells #[.int .i64 (wh Q), .int .u64 (wl Q)] 47)).alloc (.cells #[.int .i64 (wh R), .int .u64 (wl R)] 47)
  have HU4 := Lib.hid ((HU3.out.alloc (.cells #[.int .i64 (wh Q), .int .u64 (wl Q)] 47)).alloc (.cells #[.int .i64 (wh R), .int .u64 (wl R)] 47))
  have a0 := hz4.cell (j := 0) rfl
  have a1 := hz4.cell (j := 1) rfl
  have af0 := hz4.free 0
  have af1 := hz4.free 1
  have HZ4 := Lib.hid hz4
  clear hz4 hz1 hz0 hU0 hU1 hU2 hU3 HU3
  go_wp2
  have hy := (HZ4.out.set 0 (.int .i64 (wh Q))).set 1 (.int .u64 (wl Q))
  have y0 := hy.cell (j := 0) rfl
  have y1 := hy.cell (j := 1) rfl
  refine bodyPost_ret (v := wide Q) ?_ rfl ⟨rfl, ?_⟩
  · simp [results, Try.f66, go_sem, y0, y1]
  · exact (HU4.out.setCell (.inr (by simp)) _).setCell (.inr (by simp)) _
end Go.Proofs.Ytdjpcinibgbglaa
