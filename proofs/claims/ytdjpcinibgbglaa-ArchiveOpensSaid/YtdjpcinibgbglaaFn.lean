/- Package archive: the small functions. archive.fits behind another. archive.fits, archive.Check. archive.Check. -/
import Derived.Test.YtdjpcinibgbglaaArc
import Derived.Test.YtdjpcinibgbglaaKern
import Derived.BigQuiet
set_option linter.unusedVariables false
set_option linter.unusedSimpArgs false
namespace Go.Proofs.Ytdjpcinibgbglaa
open Go.RowKit

theorem second_calls (t : Int) (w : World) : Calls Try.prog 41 #[.int .i64 t] w fun e w' => e = .returned (.bool (sec t)) ∧ w' = w := by
  obtain ⟨r, hr⟩ : ∃ r, r = sec t := ⟨_, rfl⟩
  rw [← hr]
  unfold sec at hr
  by_cases c1 : 0 ≤ t
  · by_cases c2 : t ≤ 1099511627775
    · obtain rfl : true = r := by rw [hr]; first | rw [decide_eq_true c1, decide_eq_true c2]; rfl | rw [decide_eq_true c1, decide_eq_false c2]; rfl
      clear hr
      go_enter Try.func41, Try.ntmps41
      go_wp2
      go_ret
      exact ⟨rfl, rfl⟩
    · obtain rfl : false = r := by rw [hr]; first | rw [decide_eq_true c1, decide_eq_true c2]; rfl | rw [decide_eq_true c1, decide_eq_false c2]; rfl
      have e2 : decide (t ≤ 1099511627775) = false := by simpa using c2
      clear hr
      go_enter Try.func41, Try.ntmps41
      go_wp2
      go_ret
      exact ⟨rfl, rfl⟩
  · obtain rfl : false = r := by rw [hr, decide_eq_false c1]; rfl
    have e2 : decide (0 ≤ t) = false := by simpa using c1
    clear hr
    go_enter Try.func41, Try.ntmps41
    go_wp2
    go_ret
    exact ⟨rfl, rfl⟩
theorem reach_calls (s n : Int) (h : I64 (s * n)) (w : World) : Calls Try.prog 43 #[.agg #[.int .i64 s, .int .i64 n]] w fun e w' => e = .returned (.int .i64 (s * n)) ∧ Upd [] w w' := by
  unfold I64 at h
  have hw : IntKind.i64.wrap (s * n) = s * n := by simp [IntKind.wrap, IntKind.bits, IntKind.signed]; omega
  go_enter Try.func43, Try.ntmps43
  go_wp2
  go_ret
  exact ⟨rfl, (Upd.refl _ _).alloc _⟩
/-- A band's block: what it is, and where its places lie. -/
abbrev bandC (b : Band) (l i : Nat) : List Value := [.int .i64 b.step, .int .i64 b.n, .slice (some ⟨l, 0, none⟩) b.n b.n, .slice (some ⟨i, 0, none⟩) b.n b.n]
abbrev pB (b : Nat) : Value := .pointer (some ⟨b, 0, none⟩)
theorem tmod_nn {t s : Int} (h : 0 ≤ t) : t.tmod s = t % s := Int.tmod_eq_emod_of_nonneg h
theorem wrapI' {x : Int} (h : I64 x) : IntKind.i64.wrap x = x := by
  unfold I64 at h
  simp [IntKind.wrap, IntKind.bits, IntKind.signed]
  omega
theorem w64 {x : Int} (h : I64 x) : wrap64 x = x := by unfold I64 at h; unfold wrap64; omega
theorem emod_le' {t s : Int} (ht : 0 ≤ t) (hs : 1 ≤ s) : 0 ≤ t % s ∧ t % s < s ∧ t % s ≤ t := by
  have h1 := Int.emod_nonneg t (show s ≠ 0 by omega)
  have h2 := Int.emod_lt_of_pos t (show 0 < s by omega)
  have h3 := Int.mul_ediv_add_emod t s
  have h4 : 0 ≤ s * (t / s) := Int.mul_nonneg (by omega) (Int.ediv_nonneg ht (by omega))
  omega
theorem ediv_le' {t s : Int} (ht : 0 ≤ t) (hs : 1 ≤ s) : 0 ≤ t / s ∧ t / s ≤ t := by
  have h1 := Int.ediv_nonneg ht (show 0 ≤ s by omega)
  have h2 := Int.ediv_le_self s ht
  omega
abbrev T62 (t : Int) : Prop := 0 ≤ t ∧ t ≤ 4611686018427387904
theorem interval_calls (bb l i : Nat) (b : Band) (t : Int) (w : World) (hb : HB w bb 107 (bandC b l i)) (hs : 1 ≤ b.step) (ht : T62 t) :
    Calls Try.prog 46 #[pB bb, .int .i64 t] w fun e w' => e = .returned (.int .i64 (t - t % b.step)) ∧ w' = w := by
  have y0 := hb.cell (j := 0) rfl
  have e1 := tmod_nn (s := b.step) ht.1
  have e2 : IntKind.i64.wrap (t - t % b.step) = t - t % b.step := wrapI' (by
    have := emod_le' ht.1 hs
    unfold T62 at ht
    unfold I64
    omega)
  have e3 : (b.step == 0) = false := by simp; omega
  clear hb ht
  go_enter Try.func46, Try.ntmps46
  go_wp2
  go_ret
  exact ⟨rfl, rfl⟩
theorem place_nat {b : Band} {t : Int} (hs : 1 ≤ b.step) (hn : 1 ≤ b.n) (ht : 0 ≤ t) : t / b.step % (b.n : Int) = (b.place t : Int) ∧ b.place t < b.n := by
  have h1 := ediv_le' ht hs
  have h2 := emod_le' h1.1 (show (1 : Int) ≤ b.n by omega)
  unfold Band.place
  omega
theorem place_calls (bb l i : Nat) (b : Band) (t : Int) (w : World) (hb : HB w bb 107 (bandC b l i)) (hs : 1 ≤ b.step) (hn : 1 ≤ b.n) (hn2 : b.n ≤ 4096) (ht : T62 t) :
    Calls Try.prog 76 #[pB bb, .int .i64 t] w fun e w' => e = .returned (.int .i64 (b.place t : Int)) ∧ ∃ n, w' = w.drewN n := by
  have y0 := hb.cell (j := 0) rfl
  have y1 := hb.cell (j := 1) rfl
  have h1 := ediv_le' ht.1 hs
  have e0 : t.tdiv b.step = t / b.step := Int.tdiv_eq_ediv_of_nonneg ht.1
  have e1 := tmod_nn (s := (b.n : Int)) h1.1
  have e2 := (place_nat hs hn ht.1).1
  have e3 : (b.step == 0) = false := by simp; omega
  have e4 : ((b.n : Int) == 0) = false := by simp; omega
  have e5 : IntKind.i64.wrap (t / b.step) = t / b.step := wrapI' (by unfold T62 at ht; unfold I64; omega)
  have e6 : IntKind.i64.wrap (b.place t : Int) = (b.place t : Int) := wrapI' (by have := (place_nat hs hn ht.1).2; unfold I64; omega)
  clear hb ht h1
  go_enter Try.func76, Try.ntmps76
  go_wp2
  go_quiet (fail)
  go_wp2
  go_ret
  exact ⟨rfl, _, rfl⟩
abbrev spcV (s : Spc) : Value := .agg #[.int .i64 s.1, .int .i64 s.2]
abbrev spcC (s : Spc) : List Value := [.int .i64 s.1, .int .i64 s.2]
def I64S (s : Spc) : Prop := I64 s.1 ∧ I64 s.2
theorem okSpc_no {s n : Int} (h : ¬ (1 ≤ s ∧ s ≤ 1099511627775 ∧ 1 ≤ n ∧ n ≤ 4096 ∧ s ≤ 1099511627775 / n)) (p : Option Spc) : fitsS (s, n) p = false := by
  have : okSpc (s, n) = false := by
    rw [← Bool.not_eq_true, okSpc_iff]
    exact h
  cases p <;> simp [fitsS, this]
end Go.Proofs.Ytdjpcinibgbglaa
namespace Go.Proofs.Ytdjpcinibgbglaa
open Go.RowKit Go.Sort
set_option maxHeartbeats 400000 in
theorem fits_last (s n a m : Int) (q c b o : Nat) (w : World) (hok : okSpc (s, n) = true) (hA : okSpc (a, m) = true)
    (hc1 : q + 1 ≤ c) (hc2 : c ≤ maxLen) (r0 : w.cell? ⟨b, o + q * 2, none⟩ = some (.int .i64 a)) (r1 : w.cell? ⟨b, o + q * 2 + 1, none⟩ = some (.int .i64 m)) :
    Calls Try.prog 32 #[spcV (s, n), .slice (some ⟨b, o, none⟩) (q + 1) c] w fun e w' => e = .returned (.bool (okPair (a, m) (s, n))) ∧ Upd [] w w' := by
  obtain ⟨res, hres⟩ : ∃ res, res = okPair (a, m) (s, n) := ⟨_, rfl⟩
  rw [← hres]
  have HRES := Lib.hid hres
  clear hres
  obtain ⟨g0, g1, g2, g3, g4⟩ := okSpc_iff.1 hok
  simp only at g0 g1 g2 g3 g4
  have f0 : decide (s < 1) = false := decide_eq_false (by omega)
  have f1 : decide (1099511627775 < s) = false := decide_eq_false (by omega)
  have f2 : decide (n < 1) = false := decide_eq_false (by omega)
  have f3 : decide (4096 < n) = false := decide_eq_false (by omega)
  have td : (1099511627775 : Int).tdiv n = 1099511627775 / n := Int.tdiv_eq_ediv_of_nonneg (by decide)
  have tz : (n == 0) = false := by simp; omega
  have tw : IntKind.i64.wrap (1099511627775 / n) = 1099511627775 / n := wrapI' (by have := ediv_le' (t := 1099511627775) (s := n) (by decide) (by omega); unfold I64; omega)
  obtain ⟨D, hD⟩ : ∃ D, D = 1099511627775 / n := ⟨_, rfl⟩
  rw [← hD] at td tw g4
  have f4 : decide (D < s) = false := decide_eq_false (by omega)
  have k0 := (HB.new w 44 (spcC (s, n))).cell (j := 0) rfl
  have k1 := (HB.new w 44 (spcC (s, n))).cell (j := 1) rfl
  have r0' := ((Upd.refl [] w).alloc (.cells #[.int .i64 s, .int .i64 n] 44)).cell r0 (by simp)
  have r1' := ((Upd.refl [] w).alloc (.cells #[.int .i64 s, .int .i64 n] 44)).cell r1 (by simp)
  clear r0 r1
  have eq1 : wrap64 (q : Int) = (q : Int) := w64 (by unfold maxLen at hc2; unfold I64; omega)
  have eq2 : (((q : Int) + 1) == 0) = false := by simp; omega
  have HOK := Lib.hid hok
  have HA := Lib.hid hA
  have HC1 := Lib.hid hc1
  have HC2 := Lib.hid hc2
  clear hok hA hD hc1 hc2
  go_enter Try.func32, Try.ntmps32
  go_wp2_with fail
  go_quiet (fail)
  go_wp2_with fail
  obtain ⟨W1, hW1⟩ : ∃ W1, W1 = ((w.alloc (.cells #[.int .i64 s, .int .i64 n] 44)).drewN nq).alloc (.cells #[.int .i64 a, .int .i64 m] 44) := ⟨_, rfl⟩
  have HU := Lib.hid (show Upd [] w W1 by rw [hW1]; exact (((Upd.refl _ _).alloc _).drewN _).alloc _)
  have b0 : HB W1 w.heap.size 44 [.int .i64 s, .int .i64 n] := by rw [hW1]; exact ((HB.new w _ [.int .i64 s, .int .i64 n]).drewN nq).alloc _
  have b1 : HB W1 (w.heap.size + 1) 44 [.int .i64 a, .int .i64 m] := by
    rw [hW1]
    have := HB.new ((w.alloc (.cells #[.int .i64 s, .int .i64 n] 44)).drewN nq) 44 [.int .i64 a, .int .i64 m]
    simpa using this
  rw [← hW1]
  have x0 := fun d os => rg_cell (b0.cell (j := 0) rfl) d os
  have x1 := fun d os => rg_cell (b0.cell (j := 1) rfl) d os
  have x2 := fun d os => rg_cell (b1.cell (j := 0) rfl) d os
  have x3 := fun d os => rg_cell (b1.cell (j := 1) rfl) d os
  clear hW1 b0 b1 k0 k1 r0' r1'
  obtain ⟨a0, a1, a2, a3, a4⟩ := okSpc_iff.1 HA.out
  simp only at a0 a1 a2 a3
  have hI1 : I64 (s * n) := by have := reach_le HOK.out; unfold reachS at this; simp only at this; unfold I64; omega
  have hI2 : I64 (a * m) := by have := reach_le HA.out; unfold reachS at this; simp only at this; unfold I64; omega
  have em : s.tmod a = s % a := tmod_nn (by omega)
  have ed : s.tdiv a = s / a := Int.tdiv_eq_ediv_of_nonneg (by omega)
  have ew : IntKind.i64.wrap (s / a) = s / a := wrapI' (by have := ediv_le' (t := s) (s := a) (by omega) (by omega); unfold I64; omega)
  have ez : (a == 0) = false := by simp; omega
  clear a4
  by_cases p0 : s % a = 0
  rotate_left
  · obtain rfl : false = res := by rw [HRES.out]; simp [okPair, reachS, p0]
    have c0 : (s % a == 0) = false := by simpa using p0
    clear HRES
    go_wp2_with fail
    refine wp_region_quiet_below (by kernel_rfl) (by kernel_rfl) ?_
    repeat (go_big_quiet_step ((go_at_call 43; exact rg_of (reach_calls _ _ (by assumption) _))))
    refine wpQuiet_nil ?_
    rintro _ ⟨⟨dq, osq⟩, rfl⟩
    go_wp2
    go_ret
    exact ⟨rfl, HU.out.then0 (rg_upd _ _ _)⟩
  have c0 : (s % a == 0) = true := by simpa using p0
  by_cases p1 : a < s
  rotate_left
  · obtain rfl : false = res := by rw [HRES.out]; simp [okPair, reachS, p1]
    have c1 : decide (a < s) = false := by simpa using p1
    clear HRES
    go_wp2_with fail
    refine wp_region_quiet_below (by kernel_rfl) (by kernel_rfl) ?_
    repeat (go_big_quiet_step ((go_at_call 43; exact rg_of (reach_calls _ _ (by assumption) _))))
    refine wpQuiet_nil ?_
    rintro _ ⟨⟨dq, osq⟩, rfl⟩
    go_wp2
    go_ret
    exact ⟨rfl, HU.out.then0 (rg_upd _ _ _)⟩
  have c1 : decide (a < s) = true := by simpa using p1
  by_cases p2 : a * m < s * n
  rotate_left
  · obtain rfl : false = res := by rw [HRES.out]; simp [okPair, reachS, p2]
    have c2 : decide (a * m < s * n) = false := by simpa using p2
    clear HRES
    go_wp2_with fail
    refine wp_region_quiet_below (by kernel_rfl) (by kernel_rfl) ?_
    repeat (go_big_quiet_step ((go_at_call 43; exact rg_of (reach_calls _ _ (by assumption) _))))
    refine wpQuiet_nil ?_
    rintro _ ⟨⟨dq, osq⟩, rfl⟩
    go_wp2
    go_ret
    exact ⟨rfl, HU.out.then0 (rg_upd _ _ _)⟩
  have c2 : decide (a * m < s * n) = true := by simpa using p2
  by_cases p3 : s / a ≤ m
  rotate_left
  · obtain rfl : false = res := by rw [HRES.out]; simp [okPair, reachS, p3]
    have c3 : decide (s / a ≤ m) = false := by simpa using p3
    clear HRES
    go_wp2_with fail
    refine wp_region_quiet_below (by kernel_rfl) (by kernel_rfl) ?_
    repeat (go_big_quiet_step ((go_at_call 43; exact rg_of (reach_calls _ _ (by assumption) _))))
    refine wpQuiet_nil ?_
    rintro _ ⟨⟨dq, osq⟩, rfl⟩
    go_wp2
    go_ret
    exact ⟨rfl, HU.out.then0 (rg_upd _ _ _)⟩
  have c3 : decide (s / a ≤ m) = true := by simpa using p3
  obtain rfl : true = res := by rw [HRES.out]; simp [okPair, reachS, p0, p1, p2, p3]
  clear HRES
  go_wp2_with fail
  refine wp_region_quiet_below (by kernel_rfl) (by kernel_rfl) ?_
  repeat (go_big_quiet_step ((go_at_call 43; exact rg_of (reach_calls _ _ (by assumption) _))))
  refine wpQuiet_nil ?_
  rintro _ ⟨⟨dq, osq⟩, rfl⟩
  go_wp2
  go_ret
  exact ⟨rfl, HU.out.then0 (rg_upd _ _ _)⟩
end Go.Proofs.Ytdjpcinibgbglaa
namespace Go.Proofs.Ytdjpcinibgbglaa
open Go.RowKit Go.Sort
set_option maxHeartbeats 400000 in
theorem fits_calls (s : Spc) (F : Nat → Prop) (v : Value) (l : List Spc) (w : World) (hr : RowK w F spcC 2 v l) (hs : I64S s) (ha : ∀ a, l.getLast? = some a → okSpc a = true) :
    Calls Try.prog 32 #[spcV s, v] w fun e w' => e = .returned (.bool (fitsS s l.getLast?)) ∧ Upd [] w w' := by
  obtain ⟨s, n⟩ := s
  obtain ⟨A, c, rfl, hc1, hc2, hc3⟩ := hr.shape
  have k0 := (HB.new w 44 (spcC (s, n))).cell (j := 0) rfl
  have k1 := (HB.new w 44 (spcC (s, n))).cell (j := 1) rfl
  obtain ⟨res, hres⟩ : ∃ res, res = fitsS (s, n) l.getLast? := ⟨_, rfl⟩
  rw [← hres]
  by_cases g0 : s < 1
  · obtain rfl : false = res := by rw [hres, okSpc_no (by omega)]
    clear hres hr
    go_enter Try.func32, Try.ntmps32
    go_wp2
    go_quiet (fail)
    go_wp2
    go_ret
    exact ⟨rfl, by repeat (first | with_reducible exact Upd.refl _ _ | with_reducible refine Upd.drewN ?_ _ | with_reducible refine Upd.drew ?_ | with_reducible refine Upd.alloc ?_ _)⟩
  · have f0 : decide (s < 1) = false := decide_eq_false g0
    by_cases g1 : 1099511627775 < s
    · obtain rfl : false = res := by rw [hres, okSpc_no (by omega)]
      clear hres hr
      go_enter Try.func32, Try.ntmps32
      go_wp2
      go_quiet (fail)
      go_wp2
      go_ret
      exact ⟨rfl, by repeat (first | with_reducible exact Upd.refl _ _ | with_reducible refine Upd.drewN ?_ _ | with_reducible refine Upd.drew ?_ | with_reducible refine Upd.alloc ?_ _)⟩
    · have f1 : decide (1099511627775 < s) = false := decide_eq_false g1
      by_cases g2 : n < 1
      · obtain rfl : false = res := by rw [hres, okSpc_no (by omega)]
        clear hres hr
        go_enter Try.func32, Try.ntmps32
        go_wp2
        go_quiet (fail)
        go_wp2
        go_ret
        exact ⟨rfl, by repeat (first | with_reducible exact Upd.refl _ _ | with_reducible refine Upd.drewN ?_ _ | with_reducible refine Upd.drew ?_ | with_reducible refine Upd.alloc ?_ _)⟩
      · have f2 : decide (n < 1) = false := decide_eq_false g2
        by_cases g3 : 4096 < n
        · obtain rfl : false = res := by rw [hres, okSpc_no (by omega)]
          clear hres hr
          go_enter Try.func32, Try.ntmps32
          go_wp2
          go_quiet (fail)
          go_wp2
          go_ret
          exact ⟨rfl, by repeat (first | with_reducible exact Upd.refl _ _ | with_reducible refine Upd.drewN ?_ _ | with_reducible refine Upd.drew ?_ | with_reducible refine Upd.alloc ?_ _)⟩
        · have f3 : decide (4096 < n) = false := decide_eq_false g3
          have td : (1099511627775 : Int).tdiv n = 1099511627775 / n := Int.tdiv_eq_ediv_of_nonneg (by decide)
          have tz : (n == 0) = false := by simp; omega
          have tw : IntKind.i64.wrap (1099511627775 / n) = 1099511627775 / n := wrapI' (by have := ediv_le' (t := 1099511627775) (s := n) (by decide) (by omega); unfold I64; omega)
          obtain ⟨D, hD⟩ : ∃ D, D = 1099511627775 / n := ⟨_, rfl⟩
          rw [← hD] at td tw
          by_cases g4 : D < s
          · obtain rfl : false = res := by rw [hres, okSpc_no (by rw [← hD]; omega)]
            clear hres hr hD
            go_enter Try.func32, Try.ntmps32
            go_wp2
            go_quiet (fail)
            go_wp2
            go_ret
            exact ⟨rfl, by repeat (first | with_reducible exact Upd.refl _ _ | with_reducible refine Upd.drewN ?_ _ | with_reducible refine Upd.drew ?_ | with_reducible refine Upd.alloc ?_ _)⟩
          · have f4 : decide (D < s) = false := decide_eq_false g4
            have hok : okSpc (s, n) = true := okSpc_iff.2 ⟨by show 1 ≤ s; omega, by show s ≤ 1099511627775; omega, by show 1 ≤ n; omega, by show n ≤ 4096; omega, by show s ≤ 1099511627775 / n; omega⟩
            rcases hL : l.getLast? with _ | ⟨a, m⟩
            · obtain rfl : true = res := by rw [hres, hL]; exact hok.symm
              have hl : l = [] := by simpa using hL
              subst hl
              clear hres hr hD hok
              go_enter Try.func32, Try.ntmps32
              go_wp2
              go_quiet (fail)
              go_wp2
              go_ret
              exact ⟨rfl, by repeat (first | with_reducible exact Upd.refl _ _ | with_reducible refine Upd.drewN ?_ _ | with_reducible refine Upd.drew ?_ | with_reducible refine Upd.alloc ?_ _)⟩
            · have hA := ha _ hL
              obtain ⟨q, hq⟩ : ∃ q, l.length = q + 1 := ⟨l.length - 1, by
            have h0 : l ≠ [] := fun e => by simp [e] at hL
            have := List.length_pos_iff.2 h0
            omega⟩
              have hq2 : l[q]? = some (a, m) := by rw [List.getLast?_eq_getElem?, hq] at hL; exact hL
              obtain ⟨b, o, rfl, _, hcell⟩ := hr.at_ hq2
              rw [hq] at hc1 ⊢
              refine (fits_last s n a m q c b o w hok hA hc1 hc2 (by simpa using hcell 0 _ rfl) (hcell 1 _ rfl)).mono ?_
              rintro e w1 ⟨rfl, hU⟩
              refine ⟨?_, hU⟩
              rw [hres, hL]
              simp [fitsS, hok]
end Go.Proofs.Ytdjpcinibgbglaa
namespace Go.Proofs.Ytdjpcinibgbglaa
open Go.RowKit Go.Sort
theorem RowK.take {α : Type} {w : World} {F : Nat → Prop} {enc : α → List Value} {k : Nat} {A : Option Addr} {n c : Nat} {xs : List α} (h : RowK w F enc k (.slice A n c) xs) (m : Nat) (hm : m ≤ n) : RowK w F enc k (.slice A m c) (xs.take m) := by
  obtain ⟨A', c', e, h2, h3, h4, h5⟩ := h
  injection e with e1 e2 e3
  subst e1 e2 e3
  have hl : (xs.take m).length = m := by simp; omega
  refine ⟨A, c, by rw [hl], by omega, h3, h4, fun i x hx => ?_⟩
  have hi : i < m := by have := (List.getElem?_eq_some_iff.1 hx).1; omega
  rw [List.getElem?_take_of_lt hi] at hx
  exact h5 i x hx
theorem take_last {α : Type} (l : List α) (k : Nat) (x : α) (h : l[k]? = some x) : (l.take (k + 1)).getLast? = some x := by
  have hk := (List.getElem?_eq_some_iff.1 h).1
  rw [List.getLast?_eq_getElem?, List.length_take, Nat.min_eq_left (by omega), Nat.add_sub_cancel, List.getElem?_take_of_lt (by omega), h]
theorem drop_cons' {α : Type} (l : List α) (k : Nat) (x : α) (h : l[k]? = some x) : l.drop k = x :: l.drop (k + 1) := by
  obtain ⟨hk, rfl⟩ := List.getElem?_eq_some_iff.1 h
  exact List.drop_eq_getElem_cons hk
set_option maxHeartbeats 1000000 in
theorem check_calls (F : Nat → Prop) (v : Value) (l : List Spc) (w : World) (hr : RowK w F spcC 2 v l) (hs : ∀ s ∈ l, I64S s) :
    Calls Try.prog 12 #[v] w fun e w' => e = .returned (.tuple #[.int .i64 (check l).1, .int .i64 (check l).2]) ∧ Upd [] w w' := by
  obtain ⟨A, c, rfl, hc1, hc2, hc3⟩ := hr.shape
  rcases hl : l with _ | ⟨s0, l0⟩
  · subst hl
    go_enter Try.func12, Try.ntmps12
    go_wp2
    go_ret2
    exact ⟨rfl, Upd.refl _ _⟩
  · rw [← hl]
    have hne : check l = chk 0 none l := by rw [hl]; rfl
    rw [hne]
    obtain ⟨r1, hr1⟩ : ∃ r1, r1 = (chk 0 none l).1 := ⟨_, rfl⟩
    obtain ⟨r2, hr2⟩ : ∃ r2, r2 = (chk 0 none l).2 := ⟨_, rfl⟩
    rw [← hr1, ← hr2]
    have hpos : 0 < l.length := by rw [hl]; simp
    obtain ⟨b, o, hA, hF, -⟩ := hr.at_ (i := 0) (x := s0) (by rw [hl]; rfl)
    subst hA
    have e0 : ((l.length : Int) == 0) = false := beq_false_of_ne (by omega)
    have HR := Lib.hid hr
    have HS := Lib.hid hs
    have HR1 := Lib.hid hr1
    have HR2 := Lib.hid hr2
    clear hl hne hr hs hr1 hr2
    have hlm : l.length ≤ 9223372036854775807 := Nat.le_trans hc1 (Nat.le_trans hc2 (by unfold maxLen; decide))
    have HC2 := Lib.hid hc2
    clear hc2 hc3
    go_enter Try.func12, Try.ntmps12
    go_wp2
    go_loopw [11] (fun i wr => ∃ k : Nat, k ≤ l.length ∧ i = .int .i64 (k : Int) ∧ Upd [] w wr ∧ k ≤ 8 ∧ chk 0 none l = chk k (l.take k).getLast? (l.drop k) ∧ (∀ a, (l.take k).getLast? = some a → okSpc a = true)) (fun i _ => l.length - (intOf i).toNat)
    case atStart => exact ⟨0, Nat.zero_le _, rfl, Upd.refl _ _, by omega, by simp, by simp⟩
    case round =>
      obtain ⟨k, hk, rfl, hU, hk8, hchk, hok⟩ := hrel
      have HU := Lib.hid hU
      have HCHK := Lib.hid hchk
      have HOK := Lib.hid hok
      clear hU hchk hok
      by_cases hlt : k < l.length
      · obtain ⟨⟨s, n⟩, hx⟩ : ∃ s, l[k]? = some s := ⟨l[k], List.getElem?_eq_getElem hlt⟩
        obtain ⟨b', o', hA, hF', hcell⟩ := HR.out.at_ hx
        injection hA with hA
        injection hA with hb ho _
        subst hb ho
        have c0 : wr.cell? ⟨b, o + k * 2, none⟩ = some (.int .i64 s) := HU.out.cell (by simpa using hcell 0 _ rfl) (by simp)
        have c1 : wr.cell? ⟨b, o + k * 2 + 1, none⟩ = some (.int .i64 n) := HU.out.cell (hcell 1 _ rfl) (by simp)
        have hdr : l.drop k = (s, n) :: l.drop (k + 1) := drop_cons' l k _ hx
        have HX := Lib.hid hx
        have HDR := Lib.hid hdr
        clear hcell hdr hx hF'
        by_cases h8 : k = 8
        · obtain rfl : r1 = 8 := by rw [HR1.out, HCHK.out, HDR.out]; simp [chk, h8]
          obtain rfl : r2 = 190 := by rw [HR2.out, HCHK.out, HDR.out]; simp [chk, h8]
          clear HR1 HR2 HCHK HDR HX
          subst h8
          go_wp2_with fail
          obtain ⟨W1, hW1⟩ : ∃ W1, W1 = wr.alloc (.cells #[.int .i64 s, .int .i64 n] 44) := ⟨_, rfl⟩
          have b0 : HB W1 wr.heap.size 44 [.int .i64 s, .int .i64 n] := by rw [hW1]; exact HB.new wr _ [.int .i64 s, .int .i64 n]
          have HU1 := Lib.hid (show Upd [] wr W1 by rw [hW1]; exact (Upd.refl _ _).alloc _)
          rw [← hW1]
          have x0 := fun d os => rg_cell (b0.cell (j := 0) rfl) d os
          have x1 := fun d os => rg_cell (b0.cell (j := 1) rfl) d os
          clear hW1 b0 c0 c1
          refine wp_region_quiet_below (by kernel_rfl) (by kernel_rfl) ?_
          repeat (go_big_quiet_step (fail))
          refine wpQuiet_nil ?_
          rintro _ ⟨⟨dq, osq⟩, rfl⟩
          go_wp2
          go_ret2
          exact ⟨rfl, (HU.out.then HU1.out).then0 (rg_upd _ _ _)⟩
        · have e8 : ((k : Int) == 8) = false := by simp; omega
          have HF := Lib.hid (fun W (hW : Upd [] w W) => fits_calls (s, n) F (.slice (some ⟨b, o, none⟩) k c) (l.take k) W ((HR.out.take k hk).upd0 hW) (HS.out _ (List.mem_of_getElem? HX.out)) HOK.out)
          rcases Bool.eq_false_or_eq_true (fitsS (s, n) (l.take k).getLast?) with hf | hf
          · rw [hf] at HF
            have HFT := Lib.hid hf
            clear hf
            go_wp2_with fail
            obtain ⟨W1, hW1⟩ : ∃ W1, W1 = wr.alloc (.cells #[.int .i64 s, .int .i64 n] 44) := ⟨_, rfl⟩
            have b0 : HB W1 wr.heap.size 44 [.int .i64 s, .int .i64 n] := by rw [hW1]; exact HB.new wr _ [.int .i64 s, .int .i64 n]
            have HU1 := Lib.hid (show Upd [] wr W1 by rw [hW1]; exact (Upd.refl _ _).alloc _)
            rw [← hW1]
            have x0 := fun d os => rg_cell (b0.cell (j := 0) rfl) d os
            have x1 := fun d os => rg_cell (b0.cell (j := 1) rfl) d os
            clear hW1 b0 c0 c1
            refine wp_region_quiet_below (by kernel_rfl) (by kernel_rfl) ?_
            repeat (go_big_quiet_step ((go_at_call 32; exact rg_of (HF.out _ ((HU.out.then HU1.out).then0 (rg_upd _ _ _))))))
            refine wpQuiet_nil ?_
            rintro _ ⟨⟨dq, osq⟩, rfl⟩
            go_wp2
            refine ⟨⟨k + 1, by omega, rfl, (HU.out.then HU1.out).then0 (rg_upd _ _ _), by omega, ?_, ?_⟩, by show l.length - ((k : Int) + 1).toNat < l.length - ((k : Int)).toNat; omega⟩
            · rw [HCHK.out, HDR.out, take_last l k _ HX.out]
              simp [chk, h8, HFT.out]
            · intro a ha
              rw [take_last l k _ HX.out] at ha
              injection ha with ha
              subst ha
              have h := HFT.out
              revert h
              cases (l.take k).getLast? <;> simp [fitsS]
              intro h _
              exact h
          · rw [hf] at HF
            obtain rfl : r1 = k := by rw [HR1.out, HCHK.out, HDR.out]; simp [chk, h8, hf]
            obtain rfl : r2 = 190 := by rw [HR2.out, HCHK.out, HDR.out]; simp [chk, h8, hf]
            clear HR1 HR2 HCHK HDR HX hf
            go_wp2_with fail
            obtain ⟨W1, hW1⟩ : ∃ W1, W1 = wr.alloc (.cells #[.int .i64 s, .int .i64 n] 44) := ⟨_, rfl⟩
            have b0 : HB W1 wr.heap.size 44 [.int .i64 s, .int .i64 n] := by rw [hW1]; exact HB.new wr _ [.int .i64 s, .int .i64 n]
            have HU1 := Lib.hid (show Upd [] wr W1 by rw [hW1]; exact (Upd.refl _ _).alloc _)
            rw [← hW1]
            have x0 := fun d os => rg_cell (b0.cell (j := 0) rfl) d os
            have x1 := fun d os => rg_cell (b0.cell (j := 1) rfl) d os
            clear hW1 b0 c0 c1
            refine wp_region_quiet_below (by kernel_rfl) (by kernel_rfl) ?_
            repeat (go_big_quiet_step ((go_at_call 32; exact rg_of (HF.out _ ((HU.out.then HU1.out).then0 (rg_upd _ _ _))))))
            refine wpQuiet_nil ?_
            rintro _ ⟨⟨dq, osq⟩, rfl⟩
            go_wp2
            go_ret2
            exact ⟨rfl, (HU.out.then HU1.out).then0 (rg_upd _ _ _)⟩
      · obtain rfl : k = l.length := by omega
        obtain rfl : r1 = 0 := by rw [HR1.out, HCHK.out]; simp [chk]
        obtain rfl : r2 = 0 := by rw [HR2.out, HCHK.out]; simp [chk]
        clear HR1 HR2 HCHK
        go_wp2
        go_ret2
        exact ⟨rfl, HU.out⟩
end Go.Proofs.Ytdjpcinibgbglaa
