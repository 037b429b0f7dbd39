/- tumblerref19.Check. -/
import Derived.Test.YtdjpcinibgbglaaFn
set_option linter.unusedVariables false
set_option linter.unusedSimpArgs false
namespace Go.Proofs.Ytdjpcinibgbglaa
open Go.RowKit Go.Sort
theorem rreach_calls (s n : Int) (h : I64 (s * n)) (w : World) : Calls Try.prog 34 #[.agg #[.int .i64 s, .int .i64 n]] w fun e w' => e = .returned (.int .i64 (s * n)) ∧ Upd [] w w' := by
  unfold I64 at h
  have hw : IntKind.i64.wrap (s * n) = s * n := by simp [IntKind.wrap, IntKind.bits, IntKind.signed]; omega
  go_enter Try.func34, Try.ntmps34
  go_wp2
  go_ret
  exact ⟨rfl, (Upd.refl _ _).alloc _⟩
set_option maxHeartbeats 1000000 in
theorem ralone_calls (s n : Int) (w : World) : Calls Try.prog 33 #[spcV (s, n)] w fun e w' => e = .returned (.bool (okSpc (s, n))) ∧ Upd [] w w' := by
  have k0 := (HB.new w 44 (spcC (s, n))).cell (j := 0) rfl
  have k1 := (HB.new w 44 (spcC (s, n))).cell (j := 1) rfl
  obtain ⟨res, hres⟩ : ∃ res, res = okSpc (s, n) := ⟨_, rfl⟩
  rw [← hres]
  by_cases g0 : s < 1
  · obtain rfl : false = res := by rw [hres]; symm; rw [← Bool.not_eq_true, okSpc_iff]; omega
    clear hres
    go_enter Try.func33, Try.ntmps33
    go_wp2
    go_ret
    exact ⟨rfl, by repeat (first | with_reducible exact Upd.refl _ _ | with_reducible refine Upd.drewN ?_ _ | with_reducible refine Upd.drew ?_ | with_reducible refine Upd.alloc ?_ _)⟩
  · have f0 : decide (s < 1) = false := decide_eq_false g0
    by_cases g1 : 1099511627775 < s
    · obtain rfl : false = res := by rw [hres]; symm; rw [← Bool.not_eq_true, okSpc_iff]; omega
      clear hres
      go_enter Try.func33, Try.ntmps33
      go_wp2
      go_ret
      exact ⟨rfl, by repeat (first | with_reducible exact Upd.refl _ _ | with_reducible refine Upd.drewN ?_ _ | with_reducible refine Upd.drew ?_ | with_reducible refine Upd.alloc ?_ _)⟩
    · have f1 : decide (1099511627775 < s) = false := decide_eq_false g1
      by_cases g2 : n < 1
      · obtain rfl : false = res := by rw [hres]; symm; rw [← Bool.not_eq_true, okSpc_iff]; omega
        clear hres
        go_enter Try.func33, Try.ntmps33
        go_wp2
        go_ret
        exact ⟨rfl, by repeat (first | with_reducible exact Upd.refl _ _ | with_reducible refine Upd.drewN ?_ _ | with_reducible refine Upd.drew ?_ | with_reducible refine Upd.alloc ?_ _)⟩
      · have f2 : decide (n < 1) = false := decide_eq_false g2
        by_cases g3 : 4096 < n
        · obtain rfl : false = res := by rw [hres]; symm; rw [← Bool.not_eq_true, okSpc_iff]; omega
          clear hres
          go_enter Try.func33, Try.ntmps33
          go_wp2
          go_ret
          exact ⟨rfl, by repeat (first | with_reducible exact Upd.refl _ _ | with_reducible refine Upd.drewN ?_ _ | with_reducible refine Upd.drew ?_ | with_reducible refine Upd.alloc ?_ _)⟩
        · have f3 : decide (4096 < n) = false := decide_eq_false g3
          have td : (1099511627775 : Int).tdiv n = 1099511627775 / n := Int.tdiv_eq_ediv_of_nonneg (by decide)
          have tz : (n == 0) = false := beq_false_of_ne (by omega)
          have tw : IntKind.i64.wrap (1099511627775 / n) = 1099511627775 / n := wrapI' (by have := ediv_le' (t := 1099511627775) (s := n) (by decide) (by omega); unfold I64; omega)
          have hr2 : res = decide (s ≤ 1099511627775 / n) := by
            rw [hres]
            unfold okSpc
            simp only
            rw [decide_eq_true (show 1 ≤ s by omega), decide_eq_true (show s ≤ 1099511627775 by omega), decide_eq_true (show 1 ≤ n by omega), decide_eq_true (show n ≤ 4096 by omega)]
            rfl
          clear hres
          obtain ⟨D, hD⟩ : ∃ D, D = 1099511627775 / n := ⟨_, rfl⟩
          rw [← hD] at td tw hr2
          have hr3 := hr2.symm
          clear hD hr2
          go_enter Try.func33, Try.ntmps33
          go_wp2
          go_quiet (fail)
          go_wp2
          go_ret
          exact ⟨rfl, by repeat (first | with_reducible exact Upd.refl _ _ | with_reducible refine Upd.drewN ?_ _ | with_reducible refine Upd.drew ?_ | with_reducible refine Upd.alloc ?_ _)⟩
set_option maxRecDepth 4000 in
set_option maxHeartbeats 2000000 in
theorem rcheck_calls (F : Nat → Prop) (v : Value) (l : List Spc) (w : World) (hr : RowK w F spcC 2 v l) (hs : ∀ s ∈ l, I64S s) :
    Calls Try.prog 13 #[v] w fun e w' => e = .returned (.tuple #[.int .i64 (check l).1, .int .i64 (check l).2]) ∧ Upd [] w w' := by
  obtain ⟨A, c, rfl, hc1, hc2, hc3⟩ := hr.shape
  rcases hl : l with _ | ⟨s0, l0⟩
  · subst hl
    go_enter Try.func13, Try.ntmps13
    go_wp2
    go_ret2
    exact ⟨rfl, Upd.refl _ _⟩
  · rw [← hl]
    have hne : check l = chk 0 none l := by rw [hl]; rfl
    rw [hne]
    obtain ⟨r1, hr1⟩ : ∃ r1, r1 = (chk 0 none l).1 := ⟨_, rfl⟩
    obtain ⟨r2, hr2⟩ : ∃ r2, r2 = (chk 0 none l).2 := ⟨_, rfl⟩
    rw [← hr1, ← hr2]
    have hpos : 0 < l.length := by rw [hl]; simp
    obtain ⟨b, o, hA, hF, -⟩ := hr.at_ (i := 0) (x := s0) (by rw [hl]; rfl)
    subst hA
    have e0 : ((l.length : Int) == 0) = false := beq_false_of_ne (by omega)
    have HR := Lib.hid hr
    have HS := Lib.hid hs
    have HR1 := Lib.hid hr1
    have HR2 := Lib.hid hr2
    have hlm : l.length ≤ 9223372036854775807 := Nat.le_trans hc1 (Nat.le_trans hc2 (by unfold maxLen; decide))
    clear hl hne hr hs hr1 hr2 hc2 hc3
    go_enter Try.func13, Try.ntmps13
    go_wp2
    go_loopw [4] (fun i wr => ∃ k : Nat, k ≤ l.length ∧ i = .int .i64 (k : Int) ∧ Upd [] w wr ∧ k ≤ 8 ∧ chk 0 none l = chk k (l.take k).getLast? (l.drop k) ∧ (∀ a, (l.take k).getLast? = some a → okSpc a = true)) (fun i _ => l.length - (intOf i).toNat)
    case atStart => exact ⟨0, Nat.zero_le _, rfl, Upd.refl _ _, by omega, by simp, by simp⟩
    case round =>
      obtain ⟨k, hk, rfl, hU, hk8, hchk, hok⟩ := hrel
      have HU := Lib.hid hU
      have HCHK := Lib.hid hchk
      have HOK := Lib.hid hok
      clear hU hchk hok
      by_cases hlt : k < l.length
      · obtain ⟨⟨s, n⟩, hx⟩ : ∃ s, l[k]? = some s := ⟨l[k], List.getElem?_eq_getElem hlt⟩
        obtain ⟨b', o', hA, hF', hcell⟩ := HR.out.at_ hx
        injection hA with hA
        injection hA with hb ho _
        subst hb ho
        have hltI : (k : Int) < (l.length : Int) := by omega
        have c0 : wr.cell? ⟨b, o + k * 2, none⟩ = some (.int .i64 s) := HU.out.cell (by simpa using hcell 0 _ rfl) (by simp)
        have c1 : wr.cell? ⟨b, o + k * 2 + 1, none⟩ = some (.int .i64 n) := HU.out.cell (hcell 1 _ rfl) (by simp)
        have hdr : l.drop k = (s, n) :: l.drop (k + 1) := drop_cons' l k _ hx
        have HX := Lib.hid hx
        have HDR := Lib.hid hdr
        clear hcell hdr hx hF'
        by_cases h8 : k = 8
        · obtain rfl : r1 = 8 := by rw [HR1.out, HCHK.out, HDR.out]; simp [chk, h8]
          obtain rfl : r2 = 190 := by rw [HR2.out, HCHK.out, HDR.out]; simp [chk, h8]
          clear HR1 HR2 HCHK HDR HX
          subst h8
          go_wp2
          go_ret2
          exact ⟨rfl, HU.out⟩
        · have e8 : ((k : Int) == 8) = false := beq_false_of_ne (by omega)
          have HAL := Lib.hid (fun W => ralone_calls s n W)
          rcases Bool.eq_false_or_eq_true (okSpc (s, n)) with hal | hal
          · rw [hal] at HAL
            by_cases h0 : k = 0
            · subst h0
              simp only [Nat.zero_mul, Nat.add_zero, Nat.zero_add] at c0 c1
              have HALT := Lib.hid hal
              clear hal
              go_wp2_with fail
              refine (HAL.out _).mono ?_
              rintro e w1 ⟨rfl, hU1⟩
              have HU1 := Lib.hid (HU.out.then hU1)
              clear hU1
              go_wp2
              refine ⟨⟨1, hlt, rfl, HU1.out, by omega, ?_, ?_⟩, by show l.length - (1 : Int).toNat < l.length - (0 : Int).toNat; omega⟩
              · rw [HCHK.out, HDR.out, take_last l 0 _ HX.out]
                simp [chk, fitsS, HALT.out]
              · intro a ha
                rw [take_last l 0 _ HX.out] at ha
                injection ha with ha
                subst ha
                exact HALT.out
            · obtain ⟨q, hqk⟩ : ∃ q, q + 1 = k := ⟨k - 1, by omega⟩
              have hq : q < l.length := by omega
              obtain ⟨⟨a, m⟩, hxa⟩ : ∃ s, l[q]? = some s := ⟨l[q], List.getElem?_eq_getElem hq⟩
              obtain ⟨b', o', hA, hF', hcell⟩ := HR.out.at_ hxa
              injection hA with hA
              injection hA with hb ho _
              subst hb ho
              have hq1 : k - 1 = q := by omega
              have C2 := Lib.hid (show w.cell? ⟨b, o + (k - 1) * 2, none⟩ = some (.int .i64 a) by rw [hq1]; simpa using hcell 0 _ rfl)
              have C3 := Lib.hid (show w.cell? ⟨b, o + (k - 1) * 2 + 1, none⟩ = some (.int .i64 m) by rw [hq1]; exact hcell 1 _ rfl)
              have hla := take_last l q _ hxa
              rw [hqk] at hla
              have hAok := HOK.out _ hla
              have hsel : chk 0 none l = if okPair (a, m) (s, n) = false then ((k : Int), 190) else chk (k + 1) (some (s, n)) (l.drop (k + 1)) := by
                rw [HCHK.out, HDR.out, hla]
                simp [chk, h8, fitsS, hal]
              obtain ⟨a0, a1, a2, a3, a4⟩ := okSpc_iff.1 hAok
              obtain ⟨g0, g1, g2, g3, g4⟩ := okSpc_iff.1 hal
              simp only at a0 a1 a2 a3 g0 g1 g2 g3
              have hI1 : I64 (s * n) := by have := reach_le hal; unfold reachS at this; simp only at this; unfold I64; omega
              have hI2 : I64 (a * m) := by have := reach_le hAok; unfold reachS at this; simp only at this; unfold I64; omega
              have em : s.tmod a = s % a := tmod_nn (by omega)
              have ed : s.tdiv a = s / a := Int.tdiv_eq_ediv_of_nonneg (by omega)
              have EW := Lib.hid (show IntKind.i64.wrap (s / a) = s / a from wrapI' (by have := ediv_le' (t := s) (s := a) (by omega) (by omega); unfold I64; omega))
              have EW2 := Lib.hid (show wrap64 ((k : Int) - 1) = (q : Int) by rw [w64 (by unfold I64; omega)]; omega)
              have ez : (a == 0) = false := beq_false_of_ne (by omega)
              have eq0 : ((k : Int) == 0) = false := beq_false_of_ne (by omega)
              have hqI : (q : Int) < (l.length : Int) := by omega
              have HSEL := Lib.hid hsel
              have HAOK := Lib.hid hAok
              have HSOK := Lib.hid hal
              have HXA := Lib.hid hxa
              have HQK := Lib.hid hqk
              clear hcell hla hsel hAok hal hxa a4 g4 hF' hqk hq1
              have K8 := Lib.hid (show k + 1 ≤ 8 by omega)
              have KM := Lib.hid (show l.length - (intOf (.int .i64 ((k : Int) + 1))).toNat < l.length - (intOf (.int .i64 (k : Int))).toNat by show l.length - ((k : Int) + 1).toNat < l.length - (k : Int).toNat; omega)
              have ew2 := EW2.out
              go_wp2_with fail
              refine (HAL.out _).mono ?_
              rintro e w1 ⟨rfl, hU1⟩
              have HU1 := Lib.hid (HU.out.then hU1)
              have c0' := hU1.cell c0 (by simp)
              have c1' := hU1.cell c1 (by simp)
              have c2' := HU1.out.cell C2.out (by simp)
              have c3' := HU1.out.cell C3.out (by simp)
              clear hU1 c0 c1
              go_wp2_with fail
              clear ew2
              obtain ⟨W1, hW1⟩ : ∃ W1, W1 = w1.alloc (.cells #[.int .i64 a, .int .i64 m] 44) := ⟨_, rfl⟩
              have b0 : HB W1 w1.heap.size 44 [.int .i64 a, .int .i64 m] := by rw [hW1]; exact HB.new w1 _ [.int .i64 a, .int .i64 m]
              have hUW : Upd [] w1 W1 := by rw [hW1]; exact (Upd.refl _ _).alloc _
              have HUW := Lib.hid (HU1.out.then hUW)
              rw [← hW1]
              have x0 := fun d os => rg_cell (b0.cell (j := 0) rfl) d os
              have x1 := fun d os => rg_cell (b0.cell (j := 1) rfl) d os
              have x2 := fun d os => rg_cell (hUW.cell c0' (by simp)) d os
              have x3 := fun d os => rg_cell (hUW.cell c1' (by simp)) d os
              clear hW1 b0 hUW c0' c1' c2' c3'
              have ew := EW.out
              by_cases p0 : s ≤ a
              · have hp : okPair (a, m) (s, n) = false := by
                  rw [← Bool.not_eq_true]; unfold okPair reachS; simp only [Bool.and_eq_true, decide_eq_true_eq, not_and]; omega
                obtain rfl : r1 = (k : Int) := by rw [HR1.out, HSEL.out, hp]; rfl
                obtain rfl : r2 = 190 := by rw [HR2.out, HSEL.out, hp]; rfl
                have d0 : decide (s ≤ a) = true := decide_eq_true p0
                clear HR1 HR2 HSEL HCHK hp
                refine wp_region_quiet_below (by kernel_rfl) (by kernel_rfl) ?_
                repeat (go_big_quiet_step ((go_at_call 34; exact rg_of (rreach_calls _ _ (by assumption) _))))
                refine wpQuiet_nil ?_
                rintro _ ⟨⟨dq, osq⟩, rfl⟩
                go_wp2
                go_ret2
                exact ⟨rfl, HUW.out.then0 (rg_upd _ _ _)⟩
              · have d0 : decide (s ≤ a) = false := decide_eq_false p0
                by_cases p1 : ¬ s % a = 0
                · have hp : okPair (a, m) (s, n) = false := by
                    rw [← Bool.not_eq_true]; unfold okPair reachS; simp only [Bool.and_eq_true, decide_eq_true_eq, not_and]; omega
                  obtain rfl : r1 = (k : Int) := by rw [HR1.out, HSEL.out, hp]; rfl
                  obtain rfl : r2 = 190 := by rw [HR2.out, HSEL.out, hp]; rfl
                  have d1 : (s % a != 0) = true := by simpa using p1
                  clear HR1 HR2 HSEL HCHK hp
                  refine wp_region_quiet_below (by kernel_rfl) (by kernel_rfl) ?_
                  repeat (go_big_quiet_step ((go_at_call 34; exact rg_of (rreach_calls _ _ (by assumption) _))))
                  refine wpQuiet_nil ?_
                  rintro _ ⟨⟨dq, osq⟩, rfl⟩
                  go_wp2
                  go_ret2
                  exact ⟨rfl, HUW.out.then0 (rg_upd _ _ _)⟩
                · have d1 : (s % a != 0) = false := by simpa using p1
                  by_cases p2 : s * n ≤ a * m
                  · have hp : okPair (a, m) (s, n) = false := by
                      rw [← Bool.not_eq_true]; unfold okPair reachS; simp only [Bool.and_eq_true, decide_eq_true_eq, not_and]; omega
                    obtain rfl : r1 = (k : Int) := by rw [HR1.out, HSEL.out, hp]; rfl
                    obtain rfl : r2 = 190 := by rw [HR2.out, HSEL.out, hp]; rfl
                    have d2 : decide (s * n ≤ a * m) = true := decide_eq_true p2
                    clear HR1 HR2 HSEL HCHK hp
                    refine wp_region_quiet_below (by kernel_rfl) (by kernel_rfl) ?_
                    repeat (go_big_quiet_step ((go_at_call 34; exact rg_of (rreach_calls _ _ (by assumption) _))))
                    refine wpQuiet_nil ?_
                    rintro _ ⟨⟨dq, osq⟩, rfl⟩
                    go_wp2
                    go_ret2
                    exact ⟨rfl, HUW.out.then0 (rg_upd _ _ _)⟩
                  · have d2 : decide (s * n ≤ a * m) = false := decide_eq_false p2
                    by_cases p3 : m < s / a
                    · have hp : okPair (a, m) (s, n) = false := by
                        rw [← Bool.not_eq_true]; unfold okPair reachS; simp only [Bool.and_eq_true, decide_eq_true_eq, not_and]; omega
                      obtain rfl : r1 = (k : Int) := by rw [HR1.out, HSEL.out, hp]; rfl
                      obtain rfl : r2 = 190 := by rw [HR2.out, HSEL.out, hp]; rfl
                      have d3 : decide (m < s / a) = true := decide_eq_true p3
                      clear HR1 HR2 HSEL HCHK hp
                      refine wp_region_quiet_below (by kernel_rfl) (by kernel_rfl) ?_
                      repeat (go_big_quiet_step ((go_at_call 34; exact rg_of (rreach_calls _ _ (by assumption) _))))
                      refine wpQuiet_nil ?_
                      rintro _ ⟨⟨dq, osq⟩, rfl⟩
                      go_wp2
                      go_ret2
                      exact ⟨rfl, HUW.out.then0 (rg_upd _ _ _)⟩
                    · have d3 : decide (m < s / a) = false := decide_eq_false p3
                      have HPT := Lib.hid (show okPair (a, m) (s, n) = true by unfold okPair reachS; simp only [Bool.and_eq_true, decide_eq_true_eq]; omega)
                      refine wp_region_quiet_below (by kernel_rfl) (by kernel_rfl) ?_
                      repeat (go_big_quiet_step ((go_at_call 34; exact rg_of (rreach_calls _ _ (by assumption) _))))
                      refine wpQuiet_nil ?_
                      rintro _ ⟨⟨dq, osq⟩, rfl⟩
                      go_wp2
                      refine ⟨⟨k + 1, hlt, rfl, HUW.out.then0 (rg_upd _ _ _), K8.out, ?_, ?_⟩, KM.out⟩
                      · rw [HSEL.out, take_last l k _ HX.out, HPT.out]
                        rfl
                      · intro y hy
                        rw [take_last l k _ HX.out] at hy
                        injection hy with hy
                        subst hy
                        exact HSOK.out
          · rw [hal] at HAL
            have hsel : chk 0 none l = ((k : Int), 190) := by
              rw [HCHK.out, HDR.out]
              cases (l.take k).getLast? <;> simp [chk, h8, fitsS, hal]
            obtain rfl : r1 = (k : Int) := by rw [HR1.out, hsel]
            obtain rfl : r2 = 190 := by rw [HR2.out, hsel]
            clear HR1 HR2 HCHK HDR HX hal hsel
            go_wp2_with fail
            refine (HAL.out _).mono ?_
            rintro e w1 ⟨rfl, hU1⟩
            go_wp2
            go_ret2
            exact ⟨rfl, HU.out.then hU1⟩
      · obtain rfl : k = l.length := by omega
        obtain rfl : r1 = 0 := by rw [HR1.out, HCHK.out]; simp [chk]
        obtain rfl : r2 = 0 := by rw [HR2.out, HCHK.out]; simp [chk]
        clear HR1 HR2 HCHK
        go_wp2
        go_ret2
        exact ⟨rfl, HU.out⟩
end Go.Proofs.Ytdjpcinibgbglaa
