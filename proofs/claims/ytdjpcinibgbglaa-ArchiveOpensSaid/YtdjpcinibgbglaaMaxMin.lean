/- slices.MaxFunc, MinFunc over numbers; archive.greatest, least. -/
import Derived.Test.YtdjpcinibgbglaaUpdX
set_option linter.unusedVariables false
set_option linter.unusedSimpArgs false
namespace Go.Proofs.Ytdjpcinibgbglaa
open Go.RowKit Go.Sort
set_option maxRecDepth 4000 in
set_option maxHeartbeats 1000000 in
theorem maxF_calls (F : Nat → Prop) (v : Value) (zs : List Int) (w : World) (hr : RowK w F wc 2 v zs) (hne : zs ≠ []) :
    Calls Try.prog 85 #[v, .func (.func 61) #[] #[]] w fun e w' => e = .returned (wide (zs.foldl max (zs.headD 0))) ∧ Upd [] w w' := by
  obtain ⟨A, c, rfl, hc1, hc2, hc3⟩ := hr.shape
  have hl := List.length_pos_iff.2 hne
  obtain ⟨z0, hz0⟩ : ∃ z, zs[0]? = some z := ⟨zs[0], List.getElem?_eq_getElem hl⟩
  obtain ⟨b, o, rfl, _, hcell⟩ := hr.at_ hz0
  have hU0 := (Upd.refl [] w).alloc (.cells #[.int .i64 0, .int .u64 0] 47)
  have c0 := hU0.cell (show w.cell? ⟨b, o, none⟩ = some (.int .i64 (wh z0)) by simpa using hcell 0 _ rfl) (by simp)
  have c1 := hU0.cell (show w.cell? ⟨b, o + 1, none⟩ = some (.int .u64 (wl z0)) by simpa using hcell 1 _ rfl) (by simp)
  have hb0 := HB.new w 47 [.int .i64 0, .int .u64 0]
  have hh : zs.headD 0 = z0 := by cases zs with | nil => exact absurd rfl hne | cons x l => simpa using hz0
  have h1 : (zs.take 1).foldl max (zs.headD 0) = z0 := by
    rw [hh]
    cases zs with
    | nil => exact absurd rfl hne
    | cons x l => simp at hz0; subst hz0; simp
  have HR := Lib.hid hr
  have H1 := Lib.hid h1
  have hlm := Nat.le_trans hc1 (Nat.le_trans hc2 maxLen_le)
  have hd : decide ((zs.length : Int) < 1) = false := decide_eq_false (by omega)
  have hb1 := (hb0.alloc (.cells #[.int .i64 (wh z0), .int .u64 (wl z0)] 47))
  have hn1 := HB.new1 w (.cells #[.int .i64 0, .int .u64 0] 47) 47 [.int .i64 (wh z0), .int .u64 (wl z0)]
  have HB1 := Lib.hid hb1
  have HN1 := Lib.hid hn1
  have HU1 := Lib.hid (hU0.alloc (.cells #[.int .i64 (wh z0), .int .u64 (wl z0)] 47))
  have HL := Lib.hid hl
  have hlI : (0 : Int) < (zs.length : Int) := by omega
  clear hr hcell h1 hb0 hb1 hn1 hU0 hc1 hc2 hc3 hh hl hz0
  go_enter Try.func85, Try.ntmps85
  go_wp2
  go_loopw [6] (fun i wr => ∃ k : Nat, 1 ≤ k ∧ k ≤ zs.length ∧ i = .int .i64 (k : Int) ∧ Upd [] w wr ∧ HB wr w.heap.size 47 [.int .i64 0, .int .u64 0] ∧ HB wr (w.heap.size + 1) 47 (wc ((zs.take k).foldl max (zs.headD 0)))) (fun i _ => zs.length - (intOf i).toNat)
  case atStart => exact ⟨1, Nat.le_refl _, HL.out, rfl, HU1.out, HB1.out, by rw [H1.out]; exact HN1.out⟩
  case round =>
    obtain ⟨k, hk1, hk, rfl, hU, hz, hm⟩ := hrel
    obtain ⟨M, hM⟩ : ∃ M, M = (zs.take k).foldl max (zs.headD 0) := ⟨_, rfl⟩
    rw [← hM] at hm
    have HM := Lib.hid hM
    have HU := Lib.hid hU
    have HZ := Lib.hid hz
    have HMB := Lib.hid hm
    have m0 := hm.cell (j := 0) rfl
    have m1 := hm.cell (j := 1) rfl
    have mf0 := hm.free 0
    have mf1 := hm.free 1
    clear hM c0 c1
    by_cases hlt : k < zs.length
    · obtain ⟨x, hx⟩ : ∃ x, zs[k]? = some x := ⟨zs[k], List.getElem?_eq_getElem hlt⟩
      obtain ⟨b', o', hA, _, hcell⟩ := HR.out.at_ hx
      injection hA with hA
      injection hA with hb ho _
      subst hb ho
      have e0 := hU.cell (show w.cell? ⟨b, o + k * 2, none⟩ = some (.int .i64 (wh x)) by simpa using hcell 0 _ rfl) (by simp)
      have e1 := hU.cell (show w.cell? ⟨b, o + k * 2 + 1, none⟩ = some (.int .u64 (wl x)) from hcell 1 _ rfl) (by simp)
      have x0 := fun d os => rg_cell e0 d os
      have x1 := fun d os => rg_cell e1 d os
      have x2 := fun d os => rg_cell m0 d os
      have x3 := fun d os => rg_cell m1 d os
      have hkI : (k : Int) < (zs.length : Int) := by omega
      have hst : (zs.take (k + 1)).foldl max (zs.headD 0) = max M x := by rw [HM.out, List.take_add_one, hx, List.foldl_append]; rfl
      have HST := Lib.hid hst
      have hms : zs.length - ((k : Int) + 1).toNat < zs.length - (k : Int).toNat := by omega
      clear hcell hx hU hz hm hst
      by_cases hc : M < x
      · have d1 : decide (0 < cmpW x M) = true := decide_eq_true (by unfold cmpW; (split <;> first | omega | (split <;> omega)))
        go_wp2_with fail
        refine wp_region_quiet_below (by kernel_rfl) (by kernel_rfl) ?_
        repeat (go_big_quiet_step ((go_at_call 61; exact rg_of (cmp_calls _ _ _))))
        refine wpQuiet_nil ?_
        rintro _ ⟨⟨dq, osq⟩, rfl⟩
        obtain ⟨W2, hW2⟩ : ∃ W2, W2 = grow (redrawn wr dq) osq := ⟨_, rfl⟩
        have hU2 : Upd [] wr W2 := by rw [hW2]; exact rg_upd _ _ _
        rw [← hW2]
        have g0 := hU2.cell e0 (by simp)
        have g1 := hU2.cell e1 (by simp)
        have hm2 := HMB.out.upd hU2 (by simp)
        have n0 := hm2.cell (j := 0) rfl
        have n1 := hm2.cell (j := 1) rfl
        have nf0 := hm2.free 0
        have nf1 := hm2.free 1
        have HM2 := Lib.hid hm2
        have HU2 := Lib.hid hU2
        clear x0 x1 x2 x3 e0 e1 m0 m1 mf0 mf1 hW2 hm2 hU2
        go_wp2
        refine ⟨⟨k + 1, by omega, hlt, rfl, ((HU.out.then HU2.out).setCell (.inr (by simp)) _).setCell (.inr (by simp)) _, ((HZ.out.upd HU2.out (by simp)).setNe (by simp) _).setNe (by simp) _, ?_⟩, hms⟩
        rw [HST.out, show max M x = x by omega]
        exact (HM2.out.set 0 (.int .i64 (wh x))).set 1 (.int .u64 (wl x))
      · have d1 : decide (0 < cmpW x M) = false := decide_eq_false (by unfold cmpW; (split <;> first | omega | (split <;> omega)))
        go_wp2_with fail
        refine wp_region_quiet_below (by kernel_rfl) (by kernel_rfl) ?_
        repeat (go_big_quiet_step ((go_at_call 61; exact rg_of (cmp_calls _ _ _))))
        refine wpQuiet_nil ?_
        rintro _ ⟨⟨dq, osq⟩, rfl⟩
        clear x0 x1 x2 x3 e0 e1 m0 m1 mf0 mf1
        go_wp2
        refine ⟨⟨k + 1, by omega, hlt, rfl, HU.out.then (rg_upd _ _ _), HZ.out.upd (rg_upd _ _ _) (by simp), ?_⟩, hms⟩
        rw [HST.out, show max M x = M by omega]
        exact HMB.out.upd (rg_upd _ _ _) (by simp)
    · obtain rfl : k = zs.length := by omega
      rw [List.take_length] at HM
      have z0' := hz.cell (j := 0) rfl
      have z1' := hz.cell (j := 1) rfl
      have zf0 := hz.free 0
      have zf1 := hz.free 1
      clear hU hz hm
      go_wp2
      have hy := (HZ.out.set 0 (.int .i64 (wh M))).set 1 (.int .u64 (wl M))
      have k0 := hy.cell (j := 0) rfl
      have k1 := hy.cell (j := 1) rfl
      refine bodyPost_ret (v := wide M) ?_ rfl ⟨by rw [HM.out], (HU.out.setCell (.inr (by simp)) _).setCell (.inr (by simp)) _⟩
      simp [results, Try.f85, go_sem, k0, k1]
set_option maxRecDepth 4000 in
set_option maxHeartbeats 1000000 in
theorem minF_calls (F : Nat → Prop) (v : Value) (zs : List Int) (w : World) (hr : RowK w F wc 2 v zs) (hne : zs ≠ []) :
    Calls Try.prog 86 #[v, .func (.func 61) #[] #[]] w fun e w' => e = .returned (wide (zs.foldl min (zs.headD 0))) ∧ Upd [] w w' := by
  obtain ⟨A, c, rfl, hc1, hc2, hc3⟩ := hr.shape
  have hl := List.length_pos_iff.2 hne
  obtain ⟨z0, hz0⟩ : ∃ z, zs[0]? = some z := ⟨zs[0], List.getElem?_eq_getElem hl⟩
  obtain ⟨b, o, rfl, _, hcell⟩ := hr.at_ hz0
  have hU0 := (Upd.refl [] w).alloc (.cells #[.int .i64 0, .int .u64 0] 47)
  have c0 := hU0.cell (show w.cell? ⟨b, o, none⟩ = some (.int .i64 (wh z0)) by simpa using hcell 0 _ rfl) (by simp)
  have c1 := hU0.cell (show w.cell? ⟨b, o + 1, none⟩ = some (.int .u64 (wl z0)) by simpa using hcell 1 _ rfl) (by simp)
  have hb0 := HB.new w 47 [.int .i64 0, .int .u64 0]
  have hh : zs.headD 0 = z0 := by cases zs with | nil => exact absurd rfl hne | cons x l => simpa using hz0
  have h1 : (zs.take 1).foldl min (zs.headD 0) = z0 := by
    rw [hh]
    cases zs with
    | nil => exact absurd rfl hne
    | cons x l => simp at hz0; subst hz0; simp
  have HR := Lib.hid hr
  have H1 := Lib.hid h1
  have hlm := Nat.le_trans hc1 (Nat.le_trans hc2 maxLen_le)
  have hd : decide ((zs.length : Int) < 1) = false := decide_eq_false (by omega)
  have hb1 := (hb0.alloc (.cells #[.int .i64 (wh z0), .int .u64 (wl z0)] 47))
  have hn1 := HB.new1 w (.cells #[.int .i64 0, .int .u64 0] 47) 47 [.int .i64 (wh z0), .int .u64 (wl z0)]
  have HB1 := Lib.hid hb1
  have HN1 := Lib.hid hn1
  have HU1 := Lib.hid (hU0.alloc (.cells #[.int .i64 (wh z0), .int .u64 (wl z0)] 47))
  have HL := Lib.hid hl
  have hlI : (0 : Int) < (zs.length : Int) := by omega
  clear hr hcell h1 hb0 hb1 hn1 hU0 hc1 hc2 hc3 hh hl hz0
  go_enter Try.func86, Try.ntmps86
  go_wp2
  go_loopw [6] (fun i wr => ∃ k : Nat, 1 ≤ k ∧ k ≤ zs.length ∧ i = .int .i64 (k : Int) ∧ Upd [] w wr ∧ HB wr w.heap.size 47 [.int .i64 0, .int .u64 0] ∧ HB wr (w.heap.size + 1) 47 (wc ((zs.take k).foldl min (zs.headD 0)))) (fun i _ => zs.length - (intOf i).toNat)
  case atStart => exact ⟨1, Nat.le_refl _, HL.out, rfl, HU1.out, HB1.out, by rw [H1.out]; exact HN1.out⟩
  case round =>
    obtain ⟨k, hk1, hk, rfl, hU, hz, hm⟩ := hrel
    obtain ⟨M, hM⟩ : ∃ M, M = (zs.take k).foldl min (zs.headD 0) := ⟨_, rfl⟩
    rw [← hM] at hm
    have HM := Lib.hid hM
    have HU := Lib.hid hU
    have HZ := Lib.hid hz
    have HMB := Lib.hid hm
    have m0 := hm.cell (j := 0) rfl
    have m1 := hm.cell (j := 1) rfl
    have mf0 := hm.free 0
    have mf1 := hm.free 1
    clear hM c0 c1
    by_cases hlt : k < zs.length
    · obtain ⟨x, hx⟩ : ∃ x, zs[k]? = some x := ⟨zs[k], List.getElem?_eq_getElem hlt⟩
      obtain ⟨b', o', hA, _, hcell⟩ := HR.out.at_ hx
      injection hA with hA
      injection hA with hb ho _
      subst hb ho
      have e0 := hU.cell (show w.cell? ⟨b, o + k * 2, none⟩ = some (.int .i64 (wh x)) by simpa using hcell 0 _ rfl) (by simp)
      have e1 := hU.cell (show w.cell? ⟨b, o + k * 2 + 1, none⟩ = some (.int .u64 (wl x)) from hcell 1 _ rfl) (by simp)
      have x0 := fun d os => rg_cell e0 d os
      have x1 := fun d os => rg_cell e1 d os
      have x2 := fun d os => rg_cell m0 d os
      have x3 := fun d os => rg_cell m1 d os
      have hkI : (k : Int) < (zs.length : Int) := by omega
      have hst : (zs.take (k + 1)).foldl min (zs.headD 0) = min M x := by rw [HM.out, List.take_add_one, hx, List.foldl_append]; rfl
      have HST := Lib.hid hst
      have hms : zs.length - ((k : Int) + 1).toNat < zs.length - (k : Int).toNat := by omega
      clear hcell hx hU hz hm hst
      by_cases hc : x < M
      · have d1 : decide (cmpW x M < 0) = true := decide_eq_true (by unfold cmpW; (split <;> first | omega | (split <;> omega)))
        go_wp2_with fail
        refine wp_region_quiet_below (by kernel_rfl) (by kernel_rfl) ?_
        repeat (go_big_quiet_step ((go_at_call 61; exact rg_of (cmp_calls _ _ _))))
        refine wpQuiet_nil ?_
        rintro _ ⟨⟨dq, osq⟩, rfl⟩
        obtain ⟨W2, hW2⟩ : ∃ W2, W2 = grow (redrawn wr dq) osq := ⟨_, rfl⟩
        have hU2 : Upd [] wr W2 := by rw [hW2]; exact rg_upd _ _ _
        rw [← hW2]
        have g0 := hU2.cell e0 (by simp)
        have g1 := hU2.cell e1 (by simp)
        have hm2 := HMB.out.upd hU2 (by simp)
        have n0 := hm2.cell (j := 0) rfl
        have n1 := hm2.cell (j := 1) rfl
        have nf0 := hm2.free 0
        have nf1 := hm2.free 1
        have HM2 := Lib.hid hm2
        have HU2 := Lib.hid hU2
        clear x0 x1 x2 x3 e0 e1 m0 m1 mf0 mf1 hW2 hm2 hU2
        go_wp2
        refine ⟨⟨k + 1, by omega, hlt, rfl, ((HU.out.then HU2.out).setCell (.inr (by simp)) _).setCell (.inr (by simp)) _, ((HZ.out.upd HU2.out (by simp)).setNe (by simp) _).setNe (by simp) _, ?_⟩, hms⟩
        rw [HST.out, show min M x = x by omega]
        exact (HM2.out.set 0 (.int .i64 (wh x))).set 1 (.int .u64 (wl x))
      · have d1 : decide (cmpW x M < 0) = false := decide_eq_false (by unfold cmpW; (split <;> first | omega | (split <;> omega)))
        go_wp2_with fail
        refine wp_region_quiet_below (by kernel_rfl) (by kernel_rfl) ?_
        repeat (go_big_quiet_step ((go_at_call 61; exact rg_of (cmp_calls _ _ _))))
        refine wpQuiet_nil ?_
        rintro _ ⟨⟨dq, osq⟩, rfl⟩
        clear x0 x1 x2 x3 e0 e1 m0 m1 mf0 mf1
        go_wp2
        refine ⟨⟨k + 1, by omega, hlt, rfl, HU.out.then (rg_upd _ _ _), HZ.out.upd (rg_upd _ _ _) (by simp), ?_⟩, hms⟩
        rw [HST.out, show min M x = M by omega]
        exact HMB.out.upd (rg_upd _ _ _) (by simp)
    · obtain rfl : k = zs.length := by omega
      rw [List.take_length] at HM
      have z0' := hz.cell (j := 0) rfl
      have z1' := hz.cell (j := 1) rfl
      have zf0 := hz.free 0
      have zf1 := hz.free 1
      clear hU hz hm
      go_wp2
      have hy := (HZ.out.set 0 (.int .i64 (wh M))).set 1 (.int .u64 (wl M))
      have k0 := hy.cell (j := 0) rfl
      have k1 := hy.cell (j := 1) rfl
      refine bodyPost_ret (v := wide M) ?_ rfl ⟨by rw [HM.out], (HU.out.setCell (.inr (by simp)) _).setCell (.inr (by simp)) _⟩
      simp [results, Try.f86, go_sem, k0, k1]
set_option maxHeartbeats 1000000 in
theorem greatest_calls (F : Nat → Prop) (v : Value) (zs : List Int) (w : World) (hr : RowK w F wc 2 v zs) (hne : zs ≠ []) :
    Calls Try.prog 69 #[v] w fun e w' => e = .returned (wide (zs.foldl max (zs.headD 0))) ∧ Upd [] w w' := by
  have hU0 := (Upd.refl [] w).alloc (.cells #[.int .i64 0, .int .u64 0] 47)
  have HC := Lib.hid (maxF_calls F v zs _ (hr.upd0 hU0) hne)
  have hz := HB.new w 47 [.int .i64 0, .int .u64 0]
  obtain ⟨X, hX⟩ : ∃ X, X = zs.foldl max (zs.headD 0) := ⟨_, rfl⟩
  rw [← hX] at HC ⊢
  clear hX hr hne
  go_enter Try.func69, Try.ntmps69
  go_wp2_with fail
  refine HC.out.mono ?_
  rintro e w1 ⟨rfl, hU1⟩
  have hz1 := hz.upd hU1 (by simp)
  have y0 := hz1.cell (j := 0) rfl
  have y1 := hz1.cell (j := 1) rfl
  have f0 := hz1.free 0
  have f1 := hz1.free 1
  have HZ := Lib.hid hz1
  have HU := Lib.hid (hU0.then hU1)
  clear hz hz1 hU0 hU1
  go_wp2
  have hy := (HZ.out.set 0 (.int .i64 (wh X))).set 1 (.int .u64 (wl X))
  have k0 := hy.cell (j := 0) rfl
  have k1 := hy.cell (j := 1) rfl
  refine bodyPost_ret (v := wide X) ?_ rfl ⟨rfl, (HU.out.setCell (.inr (by simp)) _).setCell (.inr (by simp)) _⟩
  simp [results, Try.f69, go_sem, k0, k1]
theorem roll_maxF : RollOk 4 := fun F v zs W hr hne _ _ _ => greatest_calls F v zs W hr hne
set_option maxHeartbeats 1000000 in
theorem least_calls (F : Nat → Prop) (v : Value) (zs : List Int) (w : World) (hr : RowK w F wc 2 v zs) (hne : zs ≠ []) :
    Calls Try.prog 70 #[v] w fun e w' => e = .returned (wide (zs.foldl min (zs.headD 0))) ∧ Upd [] w w' := by
  have hU0 := (Upd.refl [] w).alloc (.cells #[.int .i64 0, .int .u64 0] 47)
  have HC := Lib.hid (minF_calls F v zs _ (hr.upd0 hU0) hne)
  have hz := HB.new w 47 [.int .i64 0, .int .u64 0]
  obtain ⟨X, hX⟩ : ∃ X, X = zs.foldl min (zs.headD 0) := ⟨_, rfl⟩
  rw [← hX] at HC ⊢
  clear hX hr hne
  go_enter Try.func70, Try.ntmps70
  go_wp2_with fail
  refine HC.out.mono ?_
  rintro e w1 ⟨rfl, hU1⟩
  have hz1 := hz.upd hU1 (by simp)
  have y0 := hz1.cell (j := 0) rfl
  have y1 := hz1.cell (j := 1) rfl
  have f0 := hz1.free 0
  have f1 := hz1.free 1
  have HZ := Lib.hid hz1
  have HU := Lib.hid (hU0.then hU1)
  clear hz hz1 hU0 hU1
  go_wp2
  have hy := (HZ.out.set 0 (.int .i64 (wh X))).set 1 (.int .u64 (wl X))
  have k0 := hy.cell (j := 0) rfl
  have k1 := hy.cell (j := 1) rfl
  refine bodyPost_ret (v := wide X) ?_ rfl ⟨rfl, (HU.out.setCell (.inr (by simp)) _).setCell (.inr (by simp)) _⟩
  simp [results, Try.f70, go_sem, k0, k1]
theorem roll_minF : RollOk 5 := fun F v zs W hr hne _ _ _ => least_calls F v zs W hr hne
theorem roll_ok {m : Int} (h : 1 ≤ m ∧ m ≤ 5) : RollOk m := by
  obtain rfl | rfl | rfl | rfl | rfl : m = 1 ∨ m = 2 ∨ m = 3 ∨ m = 4 ∨ m = 5 := by omega
  · exact roll_avg
  · exact roll_sum
  · exact roll_last
  · exact roll_maxF
  · exact roll_minF
end Go.Proofs.Ytdjpcinibgbglaa
