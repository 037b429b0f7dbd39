/- AggSamples: samples, weights, members. -/
import Derived.Test.YthbjpoiolmlpmaaGreatDoorAgLaw5
import Derived.Test.YthbjpoiolmlpmaaGreatDoorMixS
import Derived.Test.YthbjpoiolmlpmaaGreatDoorScale
set_option linter.unusedVariables false
set_option linter.unusedSimpArgs false
namespace Go.Proofs.YthbjpoiolmlpmaaGreatDoor
open Go.RowKit
set_option maxHeartbeats 8000000 in
set_option maxRecDepth 200000 in
theorem samples_calls (rows : List KE) (v : Value) (F : Nat → Prop) (w : World) (hR : RowK w F rowC 9 v rows) (hF : ∀ b, F b → b < w.heap.size) (hok : okRows rows) (hM : MaxL w) :
    Calls Tryz.prog 10 #[v] w fun e w' => e = .returned (.bool true) ∧ Upd [] w w' := by
  have HT := Lib.hid (told_calls rows v F w hR hF hok hM)
  have hl := hok.1
  clear hR hok hF
  go_enter Tryz.func10, Tryz.ntmps10
  go_wp2_with fail
  refine HT.out.mono ?_
  rintro e w1 ⟨va, cw, A1, rfl, hC, hW, hU⟩
  have HS := Lib.hid (smp_law hl hC)
  obtain ⟨Ax, cx, rfl, hcw, hcx, _⟩ := own_shape hW.row
  have hcw : cw.length ≤ 9223372036854775807 := by unfold maxLen at hcx; omega
  clear hcx
  have HW := Lib.hid hW
  have HU := Lib.hid hU
  have HAW := Lib.hid (awake_calls w1 (hM.upd0 hU) (by have := hU.size; have := hM.pos; omega))
  clear hC hW hU HT
  go_wp2_with fail
  refine HAW.out.mono ?_
  rintro e w2 ⟨rfl, hU2⟩
  have HU2 := Lib.hid (HU.out.then hU2)
  have HW2 := Lib.hid (HW.out.upd hU2 (by simp) (by simp))
  clear hU2 HAW HU HW
  go_wp2_with fail
  go_loopw [25] (fun i wr => ∃ k : Nat, k ≤ cw.length ∧ i = .int .i64 k ∧ Upd [] w2 wr) (fun i _ => cw.length - (intOf i).toNat)
  case atStart => exact ⟨0, Nat.zero_le _, rfl, by repeat (first | exact Upd.refl _ _ | assumption | apply Upd.drewN | apply Upd.drew | apply Upd.alloc)⟩
  case round =>
    obtain ⟨k, hk, rfl, hU⟩ := hrel
    have HU := Lib.hid hU
    clear hU
    by_cases hlt : k < cw.length
    · obtain ⟨c, hc⟩ : ∃ c, cw[k]? = some c := ⟨cw[k], List.getElem?_eq_getElem hlt⟩
      have HCM := Lib.hid (List.mem_of_getElem? hc)
      obtain ⟨b, m, e, _, ⟨x0, x1⟩, _, hus, A', m', eT⟩ := (HW2.out.upd HU.out (by simp) (by simp)).at_ hc
      injection e with e1 e2 e3
      subst e1 e3
      obtain ⟨id, tv, us⟩ := c
      dsimp only at eT x0 x1 hus
      subst eT
      clear hc e2
      go_wp2_with fail
      generalize wr = wo at *
      go_loopw [32] (fun j wr => ∃ q : Nat, q ≤ us.length ∧ j = .int .i64 q ∧ Upd [] w2 wr) (fun j _ => us.length - (intOf j).toNat)
      case atStart => exact ⟨0, Nat.zero_le _, rfl, HU.out.then (by repeat (first | exact Upd.refl _ _ | assumption | apply Upd.drewN | apply Upd.drew | apply Upd.alloc))⟩
      case round =>
        obtain ⟨q, hq, rfl, hU⟩ := hrel
        clear x0 x1
        have HU2 := Lib.hid hU
        clear hU
        by_cases hlt2 : q < us.length
        · obtain ⟨u, hu⟩ : ∃ u, us[q]? = some u := ⟨us[q], List.getElem?_eq_getElem hlt2⟩
          have hwa : WinAt wr _ _ ⟨id, .slice A' us.length m', us⟩ := (HW2.out.upd HU2.out (by simp) (by simp)).wins _ HCM.out
          obtain ⟨b2, m2, SA, SC, MA, MC, e, _, hc, hs, hm⟩ := hwa.at_ hu
          injection e with e1 e2 e3
          subst e1 e3
          have HL := Lib.hid (HS.out _ (List.mem_map_of_mem HCM.out) u.2 (List.mem_map_of_mem (List.mem_of_getElem? hu)))
          generalize u.2 = l at *
          have HSM := Lib.hid hs
          have HME := Lib.hid hm
          have c0 := hc 0 _ rfl
          have c1 := hc 1 _ rfl
          have c2 := hc 2 _ rfl
          have c3 := hc 3 _ rfl
          have c4 := hc 4 _ rfl
          have c5 := hc 5 _ rfl
          have c6 := hc 6 _ rfl
          have c7 := hc 7 _ rfl
          have c8 := hc 8 _ rfl
          simp only [Nat.add_zero] at c0
          clear hc hs hm hwa e2 hu
          by_cases h3 : l.k = 3
          · have d3 : (l.k == 3) = true := by simpa using h3
            have d4 : (l.k == 4) = false := by simp [h3]
            have HT3 := Lib.hid (HL.out.tim h3)
            clear h3
            go_wp2_with fail
            generalize wr = wp at *
            go_loopw [10] (fun i wr => ∃ p : Nat, p ≤ l.smp.length ∧ i = .int .i64 p ∧ HB wr (wp.heap.size + 1) TWide (wC (l.smp.take p).sum) ∧ HB wr wp.heap.size TTal (talC l SA SC MA MC) ∧ Upd [] wp wr) (fun i _ => l.smp.length - (intOf i).toNat)
            case atStart => exact ⟨0, Nat.zero_le _, rfl, HB.new1 wp _ TWide [.int .i64 0, .int .u64 0], (HB.new wp TTal (talC l SA SC MA MC)).alloc _, by repeat (first | exact Upd.refl _ _ | assumption | apply Upd.drewN | apply Upd.drew | apply Upd.alloc)⟩
            case round =>
              clear c0 c1 c2 c3 c4 c5 c6 c7 c8
              obtain ⟨p, hp, rfl, hsb, htb, hU⟩ := hrel
              have HSB := Lib.hid hsb
              have HTB := Lib.hid htb
              have HU3 := Lib.hid hU
              clear hsb htb hU
              have k7 := HTB.out.cell (j := 7) rfl
              by_cases hlt3 : p < l.smp.length
              · have hls : l.smp.length ≤ 1048576 := by have := HT3.out.2.2.1; have := HL.out.c2; omega
                obtain ⟨x, hx⟩ : ∃ x, l.smp[p]? = some x := ⟨l.smp[p], List.getElem?_eq_getElem hlt3⟩
                have hox := own_upd HSM.out HU3.out (by simp)
                obtain ⟨g, e, cx⟩ := own_int hox hx
                subst e
                have hgl : g < wp.heap.size := own_lt HSM.out g rfl
                obtain ⟨S, hS⟩ : ∃ S, S = (l.smp.take p).sum := ⟨_, rfl⟩
                have hI := HL.out.smp
                have hb2 : I128 S := by rw [hS]; exact sum_i128 (fun y hy => hI y (List.mem_of_mem_take hy)) (by rw [List.length_take]; omega)
                have htk : (l.smp.take (p + 1)).sum = S + x := by rw [hS, List.take_add_one, hx]; simp
                have hb3 : I128 (S + x) := by rw [← htk]; exact sum_i128 (fun y hy => hI y (List.mem_of_mem_take hy)) (by rw [List.length_take]; omega)
                have HB1 := Lib.hid (hI x (List.mem_of_getElem? hx))
                have HB2 := Lib.hid hb2
                have HB3 := Lib.hid hb3
                have HTK := Lib.hid (show wC (l.smp.take (p + 1)).sum = wC (S + x) by rw [htk])
                rw [← hS] at HSB
                have HCX := Lib.hid cx
                have hwp := HU3.out.size
                have HSO := Lib.hid (show wp.heap.size ≤ wp.heap.size + 1 ∧ wp.heap.size ≠ wp.heap.size + 1 ∧ g ≠ wp.heap.size + 1 from ⟨by omega, by omega, by omega⟩)
                have HSB := Lib.hid HSB.out
                obtain ⟨sb, hsb⟩ : ∃ sb, sb = wp.heap.size + 1 := ⟨_, rfl⟩
                rw [← hsb] at HSB HSO ⊢
                clear hsb
                by_cases h0 : p = 0
                · have d0 : decide (0 < p) = false := by simp [h0]
                  clear h0 hx htk hb2 hb3 hox hI hS cx hwp
                  go_wp2_with fail
                  clear k7
                  refine mix_start (n := 16) 16 (fun w' => ∃ p : Wd [] wr, w' = p.v) (by kernel_rfl) (by kernel_rfl) ?_
                  refine mix_quiet [true, true, true, true, true, true, true, true, true, true, true, true, true, true, true, true] 0 rfl (by kernel_rfl) (by kernel_rfl) (by kernel_rfl) (by kernel_rfl) ⟨⟨_, (Upd.refl [] wr).drew⟩, rfl⟩ ?_
                  simp only [maskL]
                  repeat (go_big_quiet_step (fail))
                  refine wpQuiet_nil ?_
                  refine mix_end (by kernel_rfl) ?_
                  go_wp2_with fail
                  obtain ⟨W2, hW2⟩ : ∃ W2, W2 = wr.drew := ⟨_, rfl⟩
                  have hUW : Upd [] wr W2 := by rw [hW2]; exact (Upd.refl [] wr).drew
                  have HSB := Lib.hid (HSB.out.upd0 hUW)
                  have HTB := Lib.hid (HTB.out.upd0 hUW)
                  have HCX := Lib.hid (hUW.cell HCX.out (by simp))
                  have HU3 := Lib.hid (HU3.out.then hUW)
                  rw [← hW2]
                  clear hW2 hUW
                  have t7 := fun z : Wd [sb] W2 => z.h.cell (HTB.out.cell (j := 7) rfl) (by simp; exact HSO.out.2.1)
                  have c7 := fun z : Wd [sb] W2 => z.h.cell HCX.out (by simp; exact HSO.out.2.2)
                  refine mix_start (n := 12) 12 (fun w' => ∃ p : Wd [sb] W2, w' = p.v) (by kernel_rfl) (by kernel_rfl) ?_
                  refine mix_quiet [false, true, true, true, true, true] 7 rfl (by kernel_rfl) (by kernel_rfl) (by kernel_rfl) (by kernel_rfl) ⟨⟨_, (Upd.refl [sb] W2).drew⟩, rfl⟩ ?_
                  simp only [maskL]
                  repeat (go_big_quiet_step (fail))
                  refine wpQuiet_nil ?_
                  clear t7 c7
                  refine mix_two 0 6 (by kernel_rfl) (by kernel_rfl) (by kernel_rfl) rfl rfl ?_ ?_
                  · intro K QF hK
                    have k0 := HSB.out.cell (j := 0) rfl
                    have k1 := HSB.out.cell (j := 1) rfl
                    go_wp2_with fail
                    refine hK _ _ ⟨⟨_, ((Upd.refl [sb] W2).drew)⟩, rfl⟩ ?_
                    clear hK K QF
                    clear k0 k1
                    refine mix_one 6 (by kernel_rfl) (by kernel_rfl) rfl ?_
                    intro K QF hK
                    go_wp2_with fail
                    refine (of_calls _ HB1.out _).mono ?_
                    rintro y w5 ⟨rfl, hU5⟩
                    have HU5 := Lib.hid (show Upd [] W2 w5 from (Upd.refl [] W2).drew.then hU5)
                    clear hU5
                    go_wp2_with fail
                    refine hK _ _ ⟨⟨_, HU5.out.of0⟩, rfl⟩ ?_
                    clear hK K QF
                    refine mix_one 7 (by kernel_rfl) (by kernel_rfl) rfl ?_
                    intro K QF hK
                    go_wp2_with fail
                    refine (add_calls _ _ HB2.out HB1.out.to _).mono ?_
                    rintro y w6 ⟨rfl, hU6⟩
                    have HU6 := Lib.hid (HU5.out.then hU6)
                    rw [wres_in HB3.out]
                    clear hU6
                    go_wp2_with fail
                    refine hK _ _ ⟨⟨_, HU6.out.of0⟩, rfl⟩ ?_
                    clear hK K QF
                    refine mix_quiet [false, false, false, false, false, false, false, false, true, true, true] 1 rfl (by kernel_rfl) (by kernel_rfl) (by kernel_rfl) (by kernel_rfl) ⟨⟨_, HU6.out.of0⟩, rfl⟩ ?_
                    simp only [maskL]
                    repeat (go_big_quiet_step (fail))
                    refine wpQuiet_nil ?_
                    refine mix_one 11 (by kernel_rfl) (by kernel_rfl) rfl ?_
                    intro K QF hK
                    have HSB6 := Lib.hid (HSB.out.upd0 HU6.out)
                    have k0 := HSB6.out.cell (j := 0) rfl
                    have k1 := HSB6.out.cell (j := 1) rfl
                    have f0 := HSB6.out.free 0
                    have f1 := HSB6.out.free 1
                    go_wp2_with fail
                    refine hK _ _ ⟨⟨_, ((HU6.out.of0.setCell (p := ⟨sb, 0, none⟩) (.inl (by simp)) (.int .i64 (wh (S + x)))).setCell (p := ⟨sb, 1, none⟩) (.inl (by simp)) (.int .u64 (wl (S + x))))⟩, rfl⟩ ?_
                    clear hK K QF
                    clear k0 k1 f0 f1
                    refine mix_end (by kernel_rfl) ?_
                    go_wp2_with fail
                    go_roundw
                    case rel =>
                      have hlo := HSO.out.1
                      exact ⟨p + 1, by omega, by go_num, by rw [HTK.out]; exact (HSB6.out.set 0 (.int .i64 (wh (S + x)))).set 1 (.int .u64 (wl (S + x))), ((HTB.out.upd0 HU6.out).setNe (p := ⟨sb, 0, none⟩) HSO.out.2.1 _).setNe (p := ⟨sb, 1, none⟩) HSO.out.2.1 _, ((HU3.out.then HU6.out).setCell (p := ⟨sb, 0, none⟩) (.inr hlo) _).setCell (p := ⟨sb, 1, none⟩) (.inr hlo) _⟩
                    case measure => simp [intOf]; omega
                  · intro K QF hK
                    go_wp2_with fail
                    refine (of_calls _ HB1.out _).mono ?_
                    rintro y w5 ⟨rfl, hU5⟩
                    have HU5 := Lib.hid (show Upd [] W2 w5 from (Upd.refl [] W2).drew.then hU5)
                    clear hU5
                    have s0 := HU5.out.cell (HSB.out.cell (j := 0) rfl) (by simp)
                    have s1 := HU5.out.cell (HSB.out.cell (j := 1) rfl) (by simp)
                    go_wp2_with fail
                    refine hK _ _ ⟨⟨_, HU5.out.of0⟩, rfl⟩ ?_
                    clear hK K QF
                    refine mix_one 0 (by kernel_rfl) (by kernel_rfl) rfl ?_
                    intro K QF hK
                    go_wp2_with fail
                    refine hK _ _ ⟨⟨_, HU5.out.of0⟩, rfl⟩ ?_
                    clear hK K QF
                    clear s0 s1
                    refine mix_one 7 (by kernel_rfl) (by kernel_rfl) rfl ?_
                    intro K QF hK
                    go_wp2_with fail
                    refine (add_calls _ _ HB2.out HB1.out.to _).mono ?_
                    rintro y w6 ⟨rfl, hU6⟩
                    have HU6 := Lib.hid (HU5.out.then hU6)
                    rw [wres_in HB3.out]
                    clear hU6
                    go_wp2_with fail
                    refine hK _ _ ⟨⟨_, HU6.out.of0⟩, rfl⟩ ?_
                    clear hK K QF
                    refine mix_quiet [false, false, false, false, false, false, false, false, true, true, true] 1 rfl (by kernel_rfl) (by kernel_rfl) (by kernel_rfl) (by kernel_rfl) ⟨⟨_, HU6.out.of0⟩, rfl⟩ ?_
                    simp only [maskL]
                    repeat (go_big_quiet_step (fail))
                    refine wpQuiet_nil ?_
                    refine mix_one 11 (by kernel_rfl) (by kernel_rfl) rfl ?_
                    intro K QF hK
                    have HSB6 := Lib.hid (HSB.out.upd0 HU6.out)
                    have k0 := HSB6.out.cell (j := 0) rfl
                    have k1 := HSB6.out.cell (j := 1) rfl
                    have f0 := HSB6.out.free 0
                    have f1 := HSB6.out.free 1
                    go_wp2_with fail
                    refine hK _ _ ⟨⟨_, ((HU6.out.of0.setCell (p := ⟨sb, 0, none⟩) (.inl (by simp)) (.int .i64 (wh (S + x)))).setCell (p := ⟨sb, 1, none⟩) (.inl (by simp)) (.int .u64 (wl (S + x))))⟩, rfl⟩ ?_
                    clear hK K QF
                    clear k0 k1 f0 f1
                    refine mix_end (by kernel_rfl) ?_
                    go_wp2_with fail
                    go_roundw
                    case rel =>
                      have hlo := HSO.out.1
                      exact ⟨p + 1, by omega, by go_num, by rw [HTK.out]; exact (HSB6.out.set 0 (.int .i64 (wh (S + x)))).set 1 (.int .u64 (wl (S + x))), ((HTB.out.upd0 HU6.out).setNe (p := ⟨sb, 0, none⟩) HSO.out.2.1 _).setNe (p := ⟨sb, 1, none⟩) HSO.out.2.1 _, ((HU3.out.then HU6.out).setCell (p := ⟨sb, 0, none⟩) (.inr hlo) _).setCell (p := ⟨sb, 1, none⟩) (.inr hlo) _⟩
                    case measure => simp [intOf]; omega
                · obtain ⟨y, hy⟩ : ∃ y, l.smp[p - 1]? = some y := ⟨l.smp[p - 1], List.getElem?_eq_getElem (by omega)⟩
                  obtain ⟨g', e, cy⟩ := own_int hox hy
                  injection e with e
                  injection e with e
                  subst e
                  have hxy : y ≤ x := by
                    obtain ⟨h1, rfl⟩ := List.getElem?_eq_some_iff.1 hx
                    obtain ⟨h2, rfl⟩ := List.getElem?_eq_some_iff.1 hy
                    exact List.pairwise_iff_getElem.1 HT3.out.1 (p - 1) p h2 h1 (by omega)
                  have d0 : decide (0 < p) = true := by simp; omega
                  have d1 : decide (x < y) = false := by simp; omega
                  have t7 := fun z : Wd [] wr => z.h.cell (HTB.out.cell (j := 7) rfl) (by simp)
                  have c7 := fun z : Wd [] wr => z.h.cell cx (by simp)
                  have b7 := fun z : Wd [] wr => z.h.cell cy (by simp)
                  clear hx hy htk hb2 hb3 hox hI hS cx cy hxy hwp
                  go_wp2_with fail
                  clear k7
                  refine mix_start (n := 16) 16 (fun w' => ∃ p : Wd [] wr, w' = p.v) (by kernel_rfl) (by kernel_rfl) ?_
                  refine mix_quiet [true, true, true, true, true, true, true, true, true, true, true, true, true, true, true, true] 0 rfl (by kernel_rfl) (by kernel_rfl) (by kernel_rfl) (by kernel_rfl) ⟨⟨_, (Upd.refl [] wr).drew⟩, rfl⟩ ?_
                  simp only [maskL]
                  repeat (go_big_quiet_step (fail))
                  refine wpQuiet_nil ?_
                  clear t7 c7 b7
                  refine mix_end (by kernel_rfl) ?_
                  go_wp2_with fail
                  obtain ⟨W2, hW2⟩ : ∃ W2, W2 = wr.drew := ⟨_, rfl⟩
                  have hUW : Upd [] wr W2 := by rw [hW2]; exact (Upd.refl [] wr).drew
                  have HSB := Lib.hid (HSB.out.upd0 hUW)
                  have HTB := Lib.hid (HTB.out.upd0 hUW)
                  have HCX := Lib.hid (hUW.cell HCX.out (by simp))
                  have HU3 := Lib.hid (HU3.out.then hUW)
                  rw [← hW2]
                  clear hW2 hUW
                  have t7 := fun z : Wd [sb] W2 => z.h.cell (HTB.out.cell (j := 7) rfl) (by simp; exact HSO.out.2.1)
                  have c7 := fun z : Wd [sb] W2 => z.h.cell HCX.out (by simp; exact HSO.out.2.2)
                  refine mix_start (n := 12) 12 (fun w' => ∃ p : Wd [sb] W2, w' = p.v) (by kernel_rfl) (by kernel_rfl) ?_
                  refine mix_quiet [false, true, true, true, true, true] 7 rfl (by kernel_rfl) (by kernel_rfl) (by kernel_rfl) (by kernel_rfl) ⟨⟨_, (Upd.refl [sb] W2).drew⟩, rfl⟩ ?_
                  simp only [maskL]
                  repeat (go_big_quiet_step (fail))
                  refine wpQuiet_nil ?_
                  clear t7 c7
                  refine mix_two 0 6 (by kernel_rfl) (by kernel_rfl) (by kernel_rfl) rfl rfl ?_ ?_
                  · intro K QF hK
                    have k0 := HSB.out.cell (j := 0) rfl
                    have k1 := HSB.out.cell (j := 1) rfl
                    go_wp2_with fail
                    refine hK _ _ ⟨⟨_, ((Upd.refl [sb] W2).drew)⟩, rfl⟩ ?_
                    clear hK K QF
                    clear k0 k1
                    refine mix_one 6 (by kernel_rfl) (by kernel_rfl) rfl ?_
                    intro K QF hK
                    go_wp2_with fail
                    refine (of_calls _ HB1.out _).mono ?_
                    rintro y w5 ⟨rfl, hU5⟩
                    have HU5 := Lib.hid (show Upd [] W2 w5 from (Upd.refl [] W2).drew.then hU5)
                    clear hU5
                    go_wp2_with fail
                    refine hK _ _ ⟨⟨_, HU5.out.of0⟩, rfl⟩ ?_
                    clear hK K QF
                    refine mix_one 7 (by kernel_rfl) (by kernel_rfl) rfl ?_
                    intro K QF hK
                    go_wp2_with fail
                    refine (add_calls _ _ HB2.out HB1.out.to _).mono ?_
                    rintro y w6 ⟨rfl, hU6⟩
                    have HU6 := Lib.hid (HU5.out.then hU6)
                    rw [wres_in HB3.out]
                    clear hU6
                    go_wp2_with fail
                    refine hK _ _ ⟨⟨_, HU6.out.of0⟩, rfl⟩ ?_
                    clear hK K QF
                    refine mix_quiet [false, false, false, false, false, false, false, false, true, true, true] 1 rfl (by kernel_rfl) (by kernel_rfl) (by kernel_rfl) (by kernel_rfl) ⟨⟨_, HU6.out.of0⟩, rfl⟩ ?_
                    simp only [maskL]
                    repeat (go_big_quiet_step (fail))
                    refine wpQuiet_nil ?_
                    refine mix_one 11 (by kernel_rfl) (by kernel_rfl) rfl ?_
                    intro K QF hK
                    have HSB6 := Lib.hid (HSB.out.upd0 HU6.out)
                    have k0 := HSB6.out.cell (j := 0) rfl
                    have k1 := HSB6.out.cell (j := 1) rfl
                    have f0 := HSB6.out.free 0
                    have f1 := HSB6.out.free 1
                    go_wp2_with fail
                    refine hK _ _ ⟨⟨_, ((HU6.out.of0.setCell (p := ⟨sb, 0, none⟩) (.inl (by simp)) (.int .i64 (wh (S + x)))).setCell (p := ⟨sb, 1, none⟩) (.inl (by simp)) (.int .u64 (wl (S + x))))⟩, rfl⟩ ?_
                    clear hK K QF
                    clear k0 k1 f0 f1
                    refine mix_end (by kernel_rfl) ?_
                    go_wp2_with fail
                    go_roundw
                    case rel =>
                      have hlo := HSO.out.1
                      exact ⟨p + 1, by omega, by go_num, by rw [HTK.out]; exact (HSB6.out.set 0 (.int .i64 (wh (S + x)))).set 1 (.int .u64 (wl (S + x))), ((HTB.out.upd0 HU6.out).setNe (p := ⟨sb, 0, none⟩) HSO.out.2.1 _).setNe (p := ⟨sb, 1, none⟩) HSO.out.2.1 _, ((HU3.out.then HU6.out).setCell (p := ⟨sb, 0, none⟩) (.inr hlo) _).setCell (p := ⟨sb, 1, none⟩) (.inr hlo) _⟩
                    case measure => simp [intOf]; omega
                  · intro K QF hK
                    go_wp2_with fail
                    refine (of_calls _ HB1.out _).mono ?_
                    rintro y w5 ⟨rfl, hU5⟩
                    have HU5 := Lib.hid (show Upd [] W2 w5 from (Upd.refl [] W2).drew.then hU5)
                    clear hU5
                    have s0 := HU5.out.cell (HSB.out.cell (j := 0) rfl) (by simp)
                    have s1 := HU5.out.cell (HSB.out.cell (j := 1) rfl) (by simp)
                    go_wp2_with fail
                    refine hK _ _ ⟨⟨_, HU5.out.of0⟩, rfl⟩ ?_
                    clear hK K QF
                    refine mix_one 0 (by kernel_rfl) (by kernel_rfl) rfl ?_
                    intro K QF hK
                    go_wp2_with fail
                    refine hK _ _ ⟨⟨_, HU5.out.of0⟩, rfl⟩ ?_
                    clear hK K QF
                    clear s0 s1
                    refine mix_one 7 (by kernel_rfl) (by kernel_rfl) rfl ?_
                    intro K QF hK
                    go_wp2_with fail
                    refine (add_calls _ _ HB2.out HB1.out.to _).mono ?_
                    rintro y w6 ⟨rfl, hU6⟩
                    have HU6 := Lib.hid (HU5.out.then hU6)
                    rw [wres_in HB3.out]
                    clear hU6
                    go_wp2_with fail
                    refine hK _ _ ⟨⟨_, HU6.out.of0⟩, rfl⟩ ?_
                    clear hK K QF
                    refine mix_quiet [false, false, false, false, false, false, false, false, true, true, true] 1 rfl (by kernel_rfl) (by kernel_rfl) (by kernel_rfl) (by kernel_rfl) ⟨⟨_, HU6.out.of0⟩, rfl⟩ ?_
                    simp only [maskL]
                    repeat (go_big_quiet_step (fail))
                    refine wpQuiet_nil ?_
                    refine mix_one 11 (by kernel_rfl) (by kernel_rfl) rfl ?_
                    intro K QF hK
                    have HSB6 := Lib.hid (HSB.out.upd0 HU6.out)
                    have k0 := HSB6.out.cell (j := 0) rfl
                    have k1 := HSB6.out.cell (j := 1) rfl
                    have f0 := HSB6.out.free 0
                    have f1 := HSB6.out.free 1
                    go_wp2_with fail
                    refine hK _ _ ⟨⟨_, ((HU6.out.of0.setCell (p := ⟨sb, 0, none⟩) (.inl (by simp)) (.int .i64 (wh (S + x)))).setCell (p := ⟨sb, 1, none⟩) (.inl (by simp)) (.int .u64 (wl (S + x))))⟩, rfl⟩ ?_
                    clear hK K QF
                    clear k0 k1 f0 f1
                    refine mix_end (by kernel_rfl) ?_
                    go_wp2_with fail
                    go_roundw
                    case rel =>
                      have hlo := HSO.out.1
                      exact ⟨p + 1, by omega, by go_num, by rw [HTK.out]; exact (HSB6.out.set 0 (.int .i64 (wh (S + x)))).set 1 (.int .u64 (wl (S + x))), ((HTB.out.upd0 HU6.out).setNe (p := ⟨sb, 0, none⟩) HSO.out.2.1 _).setNe (p := ⟨sb, 1, none⟩) HSO.out.2.1 _, ((HU3.out.then HU6.out).setCell (p := ⟨sb, 0, none⟩) (.inr hlo) _).setCell (p := ⟨sb, 1, none⟩) (.inr hlo) _⟩
                    case measure => simp [intOf]; omega
              · obtain rfl : p = l.smp.length := by omega
                obtain ⟨_, e1, e2, e3⟩ := HT3.out
                rw [List.take_length, e1] at HSB
                have hls : l.smp.length ≤ 1048576 := by have := HL.out.c2; omega
                have hwt : l.smp.length * 1000000 ≤ l.wt := by rw [e2]; exact e3
                obtain ⟨cv, hcv⟩ : ∃ cv, cv = cmpW l.wt ((l.smp.length : Int) * 1000000) := ⟨_, rfl⟩
                have h0 : ¬ cv < 0 := by
                  rw [hcv]
                  unfold cmpW
                  split
                  · omega
                  · split <;> omega
                have HCM2 := Lib.hid (fun W => cmp_calls l.wt ((l.smp.length : Int) * 1000000) W)
                rw [← hcv] at HCM2
                have HOF := Lib.hid (fun W => of_calls ((l.smp.length : Int) * 1000000) (by unfold I64; omega) W)
                have s0 := fun z : Wd [] wr => z.h.cell (HSB.out.cell (j := 0) rfl) (by simp)
                have s1 := fun z : Wd [] wr => z.h.cell (HSB.out.cell (j := 1) rfl) (by simp)
                have t2 := fun z : Wd [] wr => z.h.cell (HTB.out.cell (j := 2) rfl) (by simp)
                have t3 := fun z : Wd [] wr => z.h.cell (HTB.out.cell (j := 3) rfl) (by simp)
                have t4 := fun z : Wd [] wr => z.h.cell (HTB.out.cell (j := 4) rfl) (by simp)
                have t5 := fun z : Wd [] wr => z.h.cell (HTB.out.cell (j := 5) rfl) (by simp)
                have t6 := fun z : Wd [] wr => z.h.cell (HTB.out.cell (j := 6) rfl) (by simp)
                have t7 := fun z : Wd [] wr => z.h.cell (HTB.out.cell (j := 7) rfl) (by simp)
                rw [← e2] at t2
                have d5 : decide (cv < 0) = false := decide_eq_false h0
                clear e1 e2 e3 hwt hcv h0
                go_wp2_with fail
                clear k7
                refine mix_start (n := 22) 22 (fun w' => ∃ p : Wd [] wr, w' = p.v) (by kernel_rfl) (by kernel_rfl) ?_
                refine mix_quiet [true, true, true, true, true, true, true, true, true, true, true, true, true, true, true, true, true, true] 4 rfl (by kernel_rfl) (by kernel_rfl) (by kernel_rfl) (by kernel_rfl) ⟨⟨_, (Upd.refl [] wr).drew⟩, rfl⟩ ?_
                simp only [maskL]
                repeat (go_big_quiet_step (fail))
                refine wpQuiet_nil ?_
                clear s0 s1 t2 t3 t4 t5 t6 t7
                refine mix_one 18 (by kernel_rfl) (by kernel_rfl) rfl ?_
                intro K QF hK
                go_wp2_with fail
                refine (HOF.out _).mono ?_
                rintro y w5 ⟨rfl, hU5⟩
                have HU5 := Lib.hid (show Upd [] wr w5 from (Upd.refl [] wr).drew.then hU5)
                clear hU5
                go_wp2_with fail
                refine hK _ _ ⟨⟨_, HU5.out⟩, rfl⟩ ?_
                clear hK K QF
                refine mix_one 19 (by kernel_rfl) (by kernel_rfl) rfl ?_
                intro K QF hK
                go_wp2_with fail
                refine (HCM2.out _).mono ?_
                rintro y w6 ⟨rfl, hU6⟩
                have HU6 := Lib.hid (HU5.out.then hU6)
                clear hU6
                go_wp2_with fail
                refine hK _ _ ⟨⟨_, HU6.out⟩, rfl⟩ ?_
                clear hK K QF
                refine mix_quiet [false, false, false, false, false, false, false, false, false, false, false, false, false, false, false, false, false, false, false, false, true, true] 0 rfl (by kernel_rfl) (by kernel_rfl) (by kernel_rfl) (by kernel_rfl) ⟨⟨_, HU6.out⟩, rfl⟩ ?_
                simp only [maskL]
                repeat (go_big_quiet_step (fail))
                refine wpQuiet_nil ?_
                refine mix_end (by kernel_rfl) ?_
                have hk := HTB.out.upd0 HU6.out
                have k0 := hk.cell (j := 0) rfl
                clear hk
                go_wp2_with fail
                go_roundw
                case rel => exact ⟨q + 1, by omega, by go_num, HU2.out.then (HU3.out.then HU6.out)⟩
                case measure => simp [intOf]; omega
          · have d3 : (l.k == 3) = false := by simpa using h3
            by_cases h4 : l.k = 4
            · have d4 : (l.k == 4) = true := by simpa using h4
              have HT4 := Lib.hid (HL.out.set h4)
              clear h3 h4
              go_wp2_with fail
              generalize wr = wp at *
              go_loopw [11] (fun i wr => ∃ p : Nat, 1 ≤ p ∧ p ≤ l.mem.length ∧ i = .int .i64 p ∧ HB wr wp.heap.size TTal (talC l SA SC MA MC) ∧ Upd [] wp wr) (fun i _ => l.mem.length - (intOf i).toNat)
              case atStart => exact ⟨1, Nat.le_refl _, HT4.out.2.1, rfl, (HB.new wp TTal (talC l SA SC MA MC)).upd0 (by repeat (first | exact Upd.refl _ _ | assumption | apply Upd.drewN | apply Upd.drew | apply Upd.alloc)), by repeat (first | exact Upd.refl _ _ | assumption | apply Upd.drewN | apply Upd.drew | apply Upd.alloc)⟩
              case round =>
                clear c0 c1 c2 c3 c4 c5 c6 c7 c8
                obtain ⟨p, hp1, hp, rfl, htb, hU⟩ := hrel
                have HTB := Lib.hid htb
                have HU3 := Lib.hid hU
                have hml : l.mem.length ≤ 1048576 := by have := HT4.out.2.2; have := HL.out.c2; omega
                clear htb hU
                by_cases hlt3 : p < l.mem.length
                · obtain ⟨x, hx⟩ : ∃ x, l.mem[p]? = some x := ⟨l.mem[p], List.getElem?_eq_getElem hlt3⟩
                  obtain ⟨y, hy⟩ : ∃ y, l.mem[p - 1]? = some y := ⟨l.mem[p - 1], List.getElem?_eq_getElem (by omega)⟩
                  have hox := own_upd HME.out HU3.out (by simp)
                  obtain ⟨g, e, cx⟩ := own_str hox hx
                  subst e
                  obtain ⟨g', e, cy⟩ := own_str hox hy
                  injection e with e
                  injection e with e
                  subst e
                  have hxy : sLt y x = true := by
                    obtain ⟨h1, rfl⟩ := List.getElem?_eq_some_iff.1 hx
                    obtain ⟨h2, rfl⟩ := List.getElem?_eq_some_iff.1 hy
                    exact List.pairwise_iff_getElem.1 HT4.out.1 (p - 1) p h2 h1 (by omega)
                  have hyx : sLt x y = false := sLt_asymm hxy
                  have d0 : Op.bytesLess y.toList x.toList = true := hxy
                  have d1 : Op.bytesLess x.toList y.toList = false := hyx
                  have t8 := HTB.out.cell (j := 8) rfl
                  have t8 := fun z : Wd [] wr => z.h.cell (HTB.out.cell (j := 8) rfl) (by simp)
                  have c7 := fun z : Wd [] wr => z.h.cell cx (by simp)
                  have b7 := fun z : Wd [] wr => z.h.cell cy (by simp)
                  have k8 := HTB.out.cell (j := 8) rfl
                  clear hx hy hox cx cy hxy hyx
                  go_wp2_with fail
                  refine mix_start (n := 12) 12 (fun w' => ∃ p : Wd [] wr, w' = p.v) (by kernel_rfl) (by kernel_rfl) ?_
                  refine mix_quiet [true, true, true, true, true, true, true, true, true, true, true, true] 0 rfl (by kernel_rfl) (by kernel_rfl) (by kernel_rfl) (by kernel_rfl) ⟨⟨_, (Upd.refl [] wr).drew⟩, rfl⟩ ?_
                  simp only [maskL]
                  repeat (go_big_quiet_step (fail))
                  refine wpQuiet_nil ?_
                  refine mix_end (by kernel_rfl) ?_
                  go_wp2_with fail
                  go_roundw
                  case rel => exact ⟨p + 1, by omega, by omega, by go_num, HTB.out.upd0 (by repeat (first | exact Upd.refl _ _ | assumption | apply Upd.drewN | apply Upd.drew | apply Upd.alloc)), HU3.out.then (by repeat (first | exact Upd.refl _ _ | assumption | apply Upd.drewN | apply Upd.drew | apply Upd.alloc))⟩
                  case measure => simp [intOf]; omega
                · obtain rfl : p = l.mem.length := by omega
                  have k8 := HTB.out.cell (j := 8) rfl
                  have k2 := HTB.out.cell (j := 2) rfl
                  have d0 : decide (l.mem.length < 1) = false := decide_eq_false (by omega)
                  have hc := HT4.out.2.2
                  have d1 : decide (l.c < (l.mem.length : Int)) = false := decide_eq_false (by omega)
                  clear hc
                  go_wp2_with fail
                  go_roundw
                  case rel => exact ⟨q + 1, by omega, by go_num, HU2.out.then HU3.out⟩
                  case measure => simp [intOf]; omega
            · have d4 : (l.k == 4) = false := by simpa using h4
              go_wp2_with fail
              go_roundw
              case rel => exact ⟨q + 1, by omega, by go_num, HU2.out.then (by repeat (first | exact Upd.refl _ _ | assumption | apply Upd.drewN | apply Upd.drew | apply Upd.alloc))⟩
              case measure => simp [intOf]; omega
        · go_wp2_with fail
          go_roundw
          case rel => exact ⟨k + 1, by omega, by go_num, HU2.out⟩
          case measure => simp [intOf]; omega
    · go_wp2
      go_ret
      exact ⟨rfl, HU2.out.then HU.out⟩
theorem aggSamples_calls (c0 : List Value) (x0 : GT.den (.slice gRow)) (W : World) (h0 : Rd W (· < W.heap.size) (.slice gRow) c0 x0) (hk : GT.bulk (.slice gRow) x0 ≤ 1048576) (hM : MaxL W) :
    Calls Tryz.prog 10 #[GT.val (.slice gRow) c0] W fun e w' => e = .returned (.bool true) ∧ Upd [] W w' := by
  obtain ⟨v, rows, rfl, hR, hok, _⟩ := rd_rows h0 hk
  exact samples_calls rows v _ W hR (fun b h => h) hok hM
end Go.Proofs.YthbjpoiolmlpmaaGreatDoor
