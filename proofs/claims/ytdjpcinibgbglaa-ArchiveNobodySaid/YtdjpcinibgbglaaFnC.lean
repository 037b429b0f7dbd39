/- archive.fits, archive.Check. -/
import Derived.Test.YtdjpcinibgbglaaFnB
set_option linter.unusedVariables false
set_option linter.unusedSimpArgs false
namespace Go.Proofs.Ytdjpcinibgbglaa
open Go.RowKit Go.Sort
set_option maxHeartbeats 400000 in
theorem fits_calls (s : Spc) (F : Nat → Prop) (v : Value) (l : List Spc) (w : World) (hr : RowK w F spcC 2 v l) (hs : I64S s) (ha : ∀ a, l.getLast? = some a → okSpc a = true) :
    Calls Try.prog 32 #[spcV s, v] w fun e w' => e = .returned (.bool (fitsS s l.getLast?)) ∧ Upd [] w w' := by
  obtain ⟨s, n⟩ := s
  obtain ⟨A, c, rfl, hc1, hc2, hc3⟩ := hr.shape
  have k0 := (HB.new w 44 (spcC (s, n))).cell (j := 0) rfl
  have k1 := (HB.new w 44 (spcC (s, n))).cell (j := 1) rfl
  obtain ⟨res, hres⟩ : ∃ res, res = fitsS (s, n) l.getLast? := ⟨_, rfl⟩
  rw [← hres]
  by_cases g0 : s < 1
  · obtain rfl : false = res := by rw [hres, okSpc_no (by omega)]
    clear hres hr
    go_enter Try.func32, Try.ntmps32
    go_wp2
    go_quiet (fail)
    go_wp2
    go_ret
    exact ⟨rfl, by repeat (first | with_reducible exact Upd.refl _ _ | with_reducible refine Upd.drewN ?_ _ | with_reducible refine Upd.drew ?_ | with_reducible refine Upd.alloc ?_ _)⟩
  · have f0 : decide (s < 1) = false := decide_eq_false g0
    by_cases g1 : 1099511627775 < s
    · obtain rfl : false = res := by rw [hres, okSpc_no (by omega)]
      clear hres hr
      go_enter Try.func32, Try.ntmps32
      go_wp2
      go_quiet (fail)
      go_wp2
      go_ret
      exact ⟨rfl, by repeat (first | with_reducible exact Upd.refl _ _ | with_reducible refine Upd.drewN ?_ _ | with_reducible refine Upd.drew ?_ | with_reducible refine Upd.alloc ?_ _)⟩
    · have f1 : decide (1099511627775 < s) = false := decide_eq_false g1
      by_cases g2 : n < 1
      · obtain rfl : false = res := by rw [hres, okSpc_no (by omega)]
        clear hres hr
        go_enter Try.func32, Try.ntmps32
        go_wp2
        go_quiet (fail)
        go_wp2
        go_ret
        exact ⟨rfl, by repeat (first | with_reducible exact Upd.refl _ _ | with_reducible refine Upd.drewN ?_ _ | with_reducible refine Upd.drew ?_ | with_reducible refine Upd.alloc ?_ _)⟩
      · have f2 : decide (n < 1) = false := decide_eq_false g2
        by_cases g3 : 4096 < n
        · obtain rfl : false = res := by rw [hres, okSpc_no (by omega)]
          clear hres hr
          go_enter Try.func32, Try.ntmps32
          go_wp2
          go_quiet (fail)
          go_wp2
          go_ret
          exact ⟨rfl, by repeat (first | with_reducible exact Upd.refl _ _ | with_reducible refine Upd.drewN ?_ _ | with_reducible refine Upd.drew ?_ | with_reducible refine Upd.alloc ?_ _)⟩
        · have f3 : decide (4096 < n) = false := decide_eq_false g3
          have td : (1099511627775 : Int).tdiv n = 1099511627775 / n := Int.tdiv_eq_ediv_of_nonneg (by decide)
          have tz : (n == 0) = false := by simp; omega
          have tw : IntKind.i64.wrap (1099511627775 / n) = 1099511627775 / n := wrapI' (by have := ediv_le' (t := 1099511627775) (s := n) (by decide) (by omega); unfold I64; omega)
          obtain ⟨D, hD⟩ : ∃ D, D = 1099511627775 / n := ⟨_, rfl⟩
          rw [← hD] at td tw
          by_cases g4 : D < s
          · obtain rfl : false = res := by rw [hres, okSpc_no (by rw [← hD]; omega)]
            clear hres hr hD
            go_enter Try.func32, Try.ntmps32
            go_wp2
            go_quiet (fail)
            go_wp2
            go_ret
            exact ⟨rfl, by repeat (first | with_reducible exact Upd.refl _ _ | with_reducible refine Upd.drewN ?_ _ | with_reducible refine Upd.drew ?_ | with_reducible refine Upd.alloc ?_ _)⟩
          · have f4 : decide (D < s) = false := decide_eq_false g4
            have hok : okSpc (s, n) = true := okSpc_iff.2 ⟨by show 1 ≤ s; omega, by show s ≤ 1099511627775; omega, by show 1 ≤ n; omega, by show n ≤ 4096; omega, by show s ≤ 1099511627775 / n; omega⟩
            rcases hL : l.getLast? with _ | ⟨a, m⟩
            · obtain rfl : true = res := by rw [hres, hL]; exact hok.symm
              have hl : l = [] := by simpa using hL
              subst hl
              clear hres hr hD hok
              go_enter Try.func32, Try.ntmps32
              go_wp2
              go_quiet (fail)
              go_wp2
              go_ret
              exact ⟨rfl, by repeat (first | with_reducible exact Upd.refl _ _ | with_reducible refine Upd.drewN ?_ _ | with_reducible refine Upd.drew ?_ | with_reducible refine Upd.alloc ?_ _)⟩
            · have hA := ha _ hL
              obtain ⟨q, hq⟩ : ∃ q, l.length = q + 1 := ⟨l.length - 1, by
            have h0 : l ≠ [] := fun e => by simp [e] at hL
            have := List.length_pos_iff.2 h0
            omega⟩
              have hq2 : l[q]? = some (a, m) := by rw [List.getLast?_eq_getElem?, hq] at hL; exact hL
              obtain ⟨b, o, rfl, _, hcell⟩ := hr.at_ hq2
              rw [hq] at hc1 ⊢
              refine (fits_last s n a m q c b o w hok hA hc1 hc2 (by simpa using hcell 0 _ rfl) (hcell 1 _ rfl)).mono ?_
              rintro e w1 ⟨rfl, hU⟩
              refine ⟨?_, hU⟩
              rw [hres, hL]
              simp [fitsS, hok]
end Go.Proofs.Ytdjpcinibgbglaa
