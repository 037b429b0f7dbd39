/- micro.Scale, agg.plus. -/
import Derived.Test.YthbjpoiolmlpmaaGreatDoorQuo
import Derived.Test.YthbjpoiolmlpmaaGreatDoorRel
set_option linter.unusedVariables false
set_option linter.unusedSimpArgs false
namespace Go.Proofs.YthbjpoiolmlpmaaGreatDoor
open Go.RowKit
theorem I64.to {x : Int} (h : I64 x) : I128 x := by unfold I64 at h; unfold I128; omega
set_option maxHeartbeats 2000000 in
theorem plus_calls (a v : Int) (ha : I128 a) (hv : I64 v) (hs : I128 (a + v)) (w : World) : Calls Tryz.prog 163 #[wide a, .int .i64 v] w fun e w' => e = .returned (wide (a + v)) ∧ Upd [] w w' := by
  have HU0 := Lib.hid (((Upd.refl [] w).alloc (.cells #[.int .i64 (wh a), .int .u64 (wl a)] 39)).alloc (.cells #[.int .i64 0, .int .u64 0] 39))
  have HB0 := Lib.hid ((HB.new w 39 [.int .i64 (wh a), .int .u64 (wl a)]).alloc (.cells #[.int .i64 0, .int .u64 0] 39))
  have HB1 := Lib.hid (HB.new1 w (.cells #[.int .i64 (wh a), .int .u64 (wl a)] 39) 39 [.int .i64 0, .int .u64 0])
  have HOF := Lib.hid (fun W => of_calls v hv W)
  have HADD := Lib.hid (fun W => add_calls a v ha hv.to W)
  rw [wres_in hs] at HADD
  dsimp only at HADD
  go_enter Tryz.func163, Tryz.ntmps163
  go_wp2_with fail
  obtain ⟨W0, hW0⟩ : ∃ W0, W0 = (w.alloc (.cells #[.int .i64 (wh a), .int .u64 (wl a)] 39)).alloc (.cells #[.int .i64 0, .int .u64 0] 39) := ⟨_, rfl⟩
  rw [← hW0] at HU0 HB0 HB1 ⊢
  refine region_rel2 9 (by kernel_rfl) (by kernel_rfl) rfl (by kernel_rfl) (fun D aa W => ∃ x8 x9 x10 x11 x7 x12 x13 x5 : Value, aa = { tmps := #[wide a, .int .i64 v, .pointer (some ⟨w.heap.size, 0, none⟩), undef, .pointer (some ⟨w.heap.size + 1, 0, none⟩), x5, undef, x7, x8, x9, x10, x11, x12, x13, undef], defers := [] } ∧ Upd [] W0 W ∧ (D 0 = true → x8 = wide a) ∧ (D 1 = true → x9 = .int .i64 v) ∧ (D 2 = true → x10 = wide v) ∧ (D 3 = true → x11 = .tuple #[wide (a + v), .int .i64 0]) ∧ (D 4 = true → x7 = .tuple #[wide (a + v), .int .i64 0]) ∧ (D 5 = true → x12 = wide (a + v)) ∧ (D 6 = true → x13 = .int .i64 0) ∧ (D 7 = true → (D 8 = false → WBlk W0 W 0 x5)) ∧ (D 8 = true → WBlk W0 W (a + v) x5)) ⟨_, _, _, _, _, _, _, _, rfl, (Upd.refl _ _).drew, (fun h => by cases h), (fun h => by cases h), (fun h => by cases h), (fun h => by cases h), (fun h => by cases h), (fun h => by cases h), (fun h => by cases h), (fun h => by cases h), (fun h => by cases h)⟩ ?_ ?_
  · rintro D aa W i o ⟨x8, x9, x10, x11, x7, x12, x13, x5, rfl, hU, h0, h1, h2, h3, h4, h5, h6, h7, h8⟩ hi ho hDi hdep hcl
    match i with
    | 0 =>
      refine wpOp_via ho fun KK hK => ?_
      have HK := Lib.hid hK
      clear hK
      obtain rfl := Option.some.inj ho
      have HUW := Lib.hid hU
      clear hU
      have hs0 := HB0.out.upd HUW.out (by simp)
      have s0 := hs0.cell (j := 0) rfl
      have s1 := hs0.cell (j := 1) rfl
      clear hs0
      go_wp2
      exact HK.out _ _ ⟨_, _, _, _, _, _, _, _, rfl, HUW.out, (fun _ => rfl), (by simpa using h1), (by simpa using h2), (by simpa using h3), (by simpa using h4), (by simpa using h5), (by simpa using h6), (fun h hd => h7 (by simpa using h) (by simpa using hd)), (fun h => h8 (by simpa using h))⟩
    | 1 =>
      refine wpOp_via ho fun KK hK => ?_
      have HK := Lib.hid hK
      clear hK
      obtain rfl := Option.some.inj ho
      have HUW := Lib.hid hU
      clear hU
      go_wp2
      exact HK.out _ _ ⟨_, _, _, _, _, _, _, _, rfl, HUW.out, (by simpa using h0), (fun _ => rfl), (by simpa using h2), (by simpa using h3), (by simpa using h4), (by simpa using h5), (by simpa using h6), (fun h hd => h7 (by simpa using h) (by simpa using hd)), (fun h => h8 (by simpa using h))⟩
    | 2 =>
      refine wpOp_via ho fun KK hK => ?_
      have HK := Lib.hid hK
      clear hK
      obtain rfl := Option.some.inj ho
      obtain rfl := h1 (hdep ⟨1, .data⟩ (by simp) rfl)
      have HUW := Lib.hid hU
      clear hU
      go_wp2_with fail
      refine (HOF.out _).mono ?_
      rintro e w2 ⟨rfl, hU1⟩
      go_wp2
      exact HK.out _ _ ⟨_, _, _, _, _, _, _, _, rfl, HUW.out.then hU1, (by simpa using h0), (fun _ => rfl), (fun _ => rfl), (by simpa using h3), (by simpa using h4), (by simpa using h5), (by simpa using h6), (fun h hd => WBlk.upd0 (h7 (by simpa using h) (by simpa using hd)) hU1), (fun h => WBlk.upd0 (h8 (by simpa using h)) hU1)⟩
    | 3 =>
      refine wpOp_via ho fun KK hK => ?_
      have HK := Lib.hid hK
      clear hK
      obtain rfl := Option.some.inj ho
      obtain rfl := h0 (hdep ⟨0, .data⟩ (by simp) rfl)
      obtain rfl := h2 (hdep ⟨2, .data⟩ (by simp) rfl)
      have HUW := Lib.hid hU
      clear hU
      go_wp2_with fail
      refine (HADD.out _).mono ?_
      rintro e w2 ⟨rfl, hU1⟩
      go_wp2
      exact HK.out _ _ ⟨_, _, _, _, _, _, _, _, rfl, HUW.out.then hU1, (fun _ => rfl), (by simpa using h1), (fun _ => rfl), (fun _ => rfl), (by simpa using h4), (by simpa using h5), (by simpa using h6), (fun h hd => WBlk.upd0 (h7 (by simpa using h) (by simpa using hd)) hU1), (fun h => WBlk.upd0 (h8 (by simpa using h)) hU1)⟩
    | 4 =>
      refine wpOp_via ho fun KK hK => ?_
      have HK := Lib.hid hK
      clear hK
      obtain rfl := Option.some.inj ho
      obtain rfl := h3 (hdep ⟨3, .data⟩ (by simp) rfl)
      have HUW := Lib.hid hU
      clear hU
      go_wp2
      exact HK.out _ _ ⟨_, _, _, _, _, _, _, _, rfl, HUW.out, (by simpa using h0), (by simpa using h1), (by simpa using h2), (fun _ => rfl), (fun _ => rfl), (by simpa using h5), (by simpa using h6), (fun h hd => h7 (by simpa using h) (by simpa using hd)), (fun h => h8 (by simpa using h))⟩
    | 5 =>
      refine wpOp_via ho fun KK hK => ?_
      have HK := Lib.hid hK
      clear hK
      obtain rfl := Option.some.inj ho
      obtain rfl := h4 (hdep ⟨4, .data⟩ (by simp) rfl)
      have HUW := Lib.hid hU
      clear hU
      go_wp2
      exact HK.out _ _ ⟨_, _, _, _, _, _, _, _, rfl, HUW.out, (by simpa using h0), (by simpa using h1), (by simpa using h2), (by simpa using h3), (fun _ => rfl), (fun _ => rfl), (by simpa using h6), (fun h hd => h7 (by simpa using h) (by simpa using hd)), (fun h => absurd (hcl 8 _ rfl (by simpa using h) ⟨5, .data⟩ (by simp) rfl) (by rw [hDi]; simp))⟩
    | 6 =>
      refine wpOp_via ho fun KK hK => ?_
      have HK := Lib.hid hK
      clear hK
      obtain rfl := Option.some.inj ho
      obtain rfl := h4 (hdep ⟨4, .data⟩ (by simp) rfl)
      have HUW := Lib.hid hU
      clear hU
      go_wp2
      exact HK.out _ _ ⟨_, _, _, _, _, _, _, _, rfl, HUW.out, (by simpa using h0), (by simpa using h1), (by simpa using h2), (by simpa using h3), (fun _ => rfl), (by simpa using h5), (fun _ => rfl), (fun h hd => h7 (by simpa using h) (by simpa using hd)), (fun h => h8 (by simpa using h))⟩
    | 7 =>
      refine wpOp_via ho fun KK hK => ?_
      have HK := Lib.hid hK
      clear hK
      obtain rfl := Option.some.inj ho
      have HUW := Lib.hid hU
      clear hU
      have hx : WBlk W0 (W.alloc (.cells (wc 0).toArray 39)) 0 (.pointer (some ⟨W.heap.size, 0, none⟩)) := ⟨_, rfl, HUW.out.size, HB.new W _ _⟩
      have hU1 := (Upd.refl [] W).alloc (.cells (wc 0).toArray 39)
      go_wp2
      exact HK.out _ _ ⟨_, _, _, _, _, _, _, _, rfl, HUW.out.then hU1, (by simpa using h0), (by simpa using h1), (by simpa using h2), (by simpa using h3), (by simpa using h4), (by simpa using h5), (by simpa using h6), (fun _ _ => hx), (fun h => absurd (hcl 8 _ rfl (by simpa using h) ⟨7, .data⟩ (by simp) rfl) (by rw [hDi]; simp))⟩
    | 8 =>
      refine wpOp_via ho fun KK hK => ?_
      have HK := Lib.hid hK
      clear hK
      obtain rfl := Option.some.inj ho
      obtain rfl := h5 (hdep ⟨5, .data⟩ (by simp) rfl)
      have r7 := h7 (hdep ⟨7, .data⟩ (by simp) rfl) hDi
      have HUW := Lib.hid hU
      clear hU
      obtain ⟨b4, e1, hb1, hb2⟩ := r7
      obtain rfl := e1
      have hst := ((Upd.refl [b4] W).setCell (p := ⟨b4, 0, none⟩) (.inl (by simp)) (.int .i64 (wh (a + v)))).setCell (p := ⟨b4, 1, none⟩) (.inl (by simp)) (.int .u64 (wl (a + v)))
      have hUF : Upd [] W0 _ := HUW.out.trans hst (fun _ h => h) (fun i hi => .inr (by simp at hi; subst hi; exact hb1))
      have hx : WBlk W0 _ (a + v) (.pointer (some ⟨b4, 0, none⟩)) := ⟨b4, rfl, hb1, (hb2.set 0 (.int .i64 (wh (a + v)))).set 1 (.int .u64 (wl (a + v)))⟩
      have z0 := hb2.cell (j := 0) rfl
      have z1 := hb2.cell (j := 1) rfl
      have zf0 := hb2.free 0
      have zf1 := hb2.free 1
      have HX := Lib.hid hx
      have HUF := Lib.hid hUF
      clear hx hUF hst hb2
      go_wp2
      have hx := HX.out
      have hUF := HUF.out
      exact HK.out _ _ ⟨_, _, _, _, _, _, _, _, rfl, hUF, (by simpa using h0), (by simpa using h1), (by simpa using h2), (by simpa using h3), (by simpa using h4), (fun _ => rfl), (by simpa using h6), (fun _ hd => by simp at hd), (fun _ => hx)⟩
    | i + 9 => omega
  · rintro D aa W o ⟨x8, x9, x10, x11, x7, x12, x13, x5, rfl, hU, h0, h1, h2, h3, h4, h5, h6, h7, h8⟩ hall ho
    refine wpOp_of_list ho ?_
    obtain rfl := Option.some.inj ho
    obtain rfl := h0 (hall 0 (by omega))
    obtain rfl := h1 (hall 1 (by omega))
    obtain rfl := h2 (hall 2 (by omega))
    obtain rfl := h3 (hall 3 (by omega))
    obtain rfl := h4 (hall 4 (by omega))
    obtain rfl := h5 (hall 5 (by omega))
    obtain rfl := h6 (hall 6 (by omega))
    have r7 := h7 (hall 7 (by omega))
    have r8 := h8 (hall 8 (by omega))
    obtain ⟨b4, e1, hb1, hb2⟩ := r8
    obtain rfl := e1
    have hz := HB1.out.upd hU (by simp)
    have hlt := HB1.out.lt
    have hsz : W0.heap.size = w.heap.size + 2 := by rw [hW0]; simp
    have hn1 : ¬ (b4 = w.heap.size + 1) := by omega
    have hn2 : ¬ (w.heap.size + 1 = b4) := by omega
    have z0 := hb2.cell (j := 0) rfl
    have z1 := hb2.cell (j := 1) rfl
    have y0 := hz.cell (j := 0) rfl
    have y1 := hz.cell (j := 1) rfl
    have f0 := hz.free 0
    have f1 := hz.free 1
    have HZ := Lib.hid hz
    have HUZ := Lib.hid (HU0.out.then hU)
    clear hz hU r7 hb2 hsz hlt
    go_wp2
    have hy := (HZ.out.set 0 (.int .i64 (wh (a + v)))).set 1 (.int .u64 (wl (a + v)))
    have k0 := hy.cell (j := 0) rfl
    have k1 := hy.cell (j := 1) rfl
    refine bodyPost_ret (v := wide (a + v)) ?_ rfl ⟨rfl, (HUZ.out.setCell (p := ⟨w.heap.size + 1, 0, none⟩) (.inr (by simp)) _).setCell (p := ⟨w.heap.size + 1, 1, none⟩) (.inr (by simp)) _⟩
    simp [results, Tryz.f163, go_sem, k0, k1]
theorem wrap_i64 {z : Int} (h : I64 z) : IntKind.i64.wrap (wl z) = z := by
  unfold I64 at h
  unfold wl
  simp [IntKind.wrap, IntKind.bits, IntKind.signed]
  omega
theorem small_calls (z : Int) (hz : I64 z) (w : World) : Calls Tryz.prog 76 #[wide z] w fun e w' => e = .returned (.tuple #[.int .i64 z, .bool true]) ∧ Upd [] w w' := by
  have hU := (Upd.refl [] w).alloc (.cells #[.int .i64 (wh z), .int .u64 (wl z)] 39)
  have HB0 := Lib.hid (HB.new w 39 [.int .i64 (wh z), .int .u64 (wl z)])
  have HOF := Lib.hid (fun W => of_calls z hz W)
  have hw := wrap_i64 hz
  have hl := wl_u z
  unfold U64 at hl
  have HU := Lib.hid hU
  clear hU
  go_enter Tryz.func76, Tryz.ntmps76
  go_wp2_with fail
  obtain ⟨W0, hW0⟩ : ∃ W0, W0 = w.alloc (.cells #[.int .i64 (wh z), .int .u64 (wl z)] 39) := ⟨_, rfl⟩
  rw [← hW0] at HU HB0 ⊢
  clear hW0 hw
  have c0 := fun p : Wd [] W0 => p.h.cell (HB0.out.cell (j := 0) rfl) (by simp)
  have c1 := fun p : Wd [] W0 => p.h.cell (HB0.out.cell (j := 1) rfl) (by simp)
  refine mix_start (n := 4) 3 (fun w' => ∃ p : Wd [] W0, w' = p.v) (by kernel_rfl) (by kernel_rfl) ?_
  refine mix_quiet [true, false, true] 2 rfl (by kernel_rfl) (by kernel_rfl) (by kernel_rfl) (by kernel_rfl) ⟨⟨_, (Upd.refl [] W0).drew⟩, rfl⟩ ?_
  simp only [maskL]
  repeat (go_big_quiet_step (fail))
  refine wpQuiet_nil ?_
  clear c0 c1
  refine mix_one 1 (by kernel_rfl) (by kernel_rfl) rfl ?_
  intro K QF hK
  go_wp2_with fail
  refine (HOF.out _).mono ?_
  rintro e w1 ⟨rfl, hU1⟩
  have HU1 := Lib.hid ((Upd.refl [] W0).drew.then hU1)
  clear hU1
  go_wp2_with fail
  refine hK _ _ ⟨⟨_, HU1.out⟩, rfl⟩ ?_
  clear hK K QF
  refine mix_tail (by kernel_rfl) (by kernel_rfl) ?_
  simp only [List.drop_succ_cons, List.drop_zero]
  go_wp2
  go_ret2
  exact ⟨rfl, HU.out.then HU1.out⟩
theorem msmall_calls (z : Int) (hz : I64 z) (w : World) : Calls Tryz.prog 55 #[wide z, .int .i64 0] w fun e w' => e = .returned (.tuple #[.int .i64 z, .int .i64 0]) ∧ Upd [] w w' := by
  have HU := Lib.hid ((Upd.refl [] w).alloc (.cells #[.int .i64 (wh z), .int .u64 (wl z)] 39))
  have HSM := Lib.hid (fun W => small_calls z hz W)
  go_enter Tryz.func55, Tryz.ntmps55
  go_wp2_with fail
  refine (HSM.out _).mono ?_
  rintro e w1 ⟨rfl, hU1⟩
  have HU1 := Lib.hid (HU.out.then hU1)
  clear hU1
  go_wp2
  go_ret2
  exact ⟨rfl, HU1.out⟩
/-- A block that holds some wide number. -/
def ABlk (W0 W : World) (v : Value) : Prop := ∃ b z, v = .pointer (some ⟨b, 0, none⟩) ∧ W0.heap.size ≤ b ∧ HB W b 39 (wc z)
theorem ABlk.upd0 {W0 W W' : World} {v : Value} (h : ABlk W0 W v) (hU : Upd [] W W') : ABlk W0 W' v := by
  obtain ⟨b, z, h1, h2, h3⟩ := h
  exact ⟨b, z, h1, h2, h3.upd hU (by simp)⟩
theorem ABlk.upd0_g {W0 W W' : World} {v : Value} (h : ABlk W0 W v) (hG : ∃ b z, Upd [b] W W' ∧ HB W' b 39 (wc z)) : ABlk W0 W' v := by
  obtain ⟨b, z, h1, h2, h3⟩ := h
  obtain ⟨b', z', g1, g2⟩ := hG
  by_cases e : b = b'
  · subst e
    exact ⟨b, z', h1, h2, g2⟩
  · exact ⟨b, z, h1, h2, h3.upd g1 (by simpa using e)⟩
theorem WBlk.toA {W0 W : World} {z : Int} {v : Value} (h : WBlk W0 W z v) : ABlk W0 W v := by
  obtain ⟨b, h1, h2, h3⟩ := h
  exact ⟨b, z, h1, h2, h3⟩
theorem ABlk.new_ne {W0 W : World} {v : Value} (h : ABlk W0 W v) : Value.pointer (some ⟨W.heap.size, 0, none⟩) ≠ v := by
  obtain ⟨b, z, h1, h2, h3⟩ := h
  intro e
  rw [h1] at e
  injection e with e
  injection e with e
  injection e with e
  have := h3.lt
  omega
theorem WBlk.upd_ne {W0 W W' : World} {z : Int} {v : Value} {b : Nat} (h : WBlk W0 W z v) (hU : Upd [b] W W') (hn : v ≠ .pointer (some ⟨b, 0, none⟩)) : WBlk W0 W' z v := by
  obtain ⟨b', h1, h2, h3⟩ := h
  refine ⟨b', h1, h2, h3.upd hU ?_⟩
  simp
  intro e
  subst e
  exact hn h1
set_option maxHeartbeats 4000000 in
theorem part_calls (a b c : Int) (ha : I64 a) (hb : I64 b) (hc : I64 c) (h0 : c ≠ 0) (hm : I128 (a * b)) (hq : I64 ((a * b).tdiv c)) (w : World) :
    Calls Tryz.prog 38 #[.int .i64 a, .int .i64 b, .int .i64 c] w fun e w' => e = .returned (.tuple #[.int .i64 ((a * b).tdiv c), .int .i64 0]) ∧ Upd [] w w' := by
  have HOA := Lib.hid (fun W => of_calls a ha W)
  have HOB := Lib.hid (fun W => of_calls b hb W)
  have HOC := Lib.hid (fun W => of_calls c hc W)
  have HMU := Lib.hid (fun W => mul_calls a b ha.to hb.to W)
  rw [wres_in hm] at HMU
  dsimp only at HMU
  obtain ⟨m, hmm⟩ : ∃ m, m = a * b := ⟨_, rfl⟩
  rw [← hmm] at HMU hm hq
  rw [← hmm]
  have HQ := Lib.hid (fun W => quo_calls m c hm hc.to h0 hq.to W)
  obtain ⟨q, hqq⟩ : ∃ q, q = m.tdiv c := ⟨_, rfl⟩
  rw [← hqq] at HQ hq
  rw [← hqq]
  obtain ⟨r, hr⟩ : ∃ r, r = m.tmod c := ⟨_, rfl⟩
  rw [← hr] at HQ
  have HSM := Lib.hid (fun W => msmall_calls q hq W)
  clear hmm hqq hr hm hq
  go_enter Tryz.func38, Tryz.ntmps38
  go_wp2_with fail
  refine (HOA.out _).mono ?_
  rintro e w1 ⟨rfl, hU1⟩
  have HU1 := Lib.hid hU1
  clear hU1
  go_wp2_with fail
  refine (HOB.out _).mono ?_
  rintro e w2 ⟨rfl, hU2⟩
  have HU2 := Lib.hid (HU1.out.then hU2)
  clear hU2
  go_wp2_with fail
  refine (HMU.out _).mono ?_
  rintro e w3 ⟨rfl, hU3⟩
  have HU3 := Lib.hid ((HU2.out.then hU3).alloc (.cells #[.int .i64 (wh m), .int .u64 (wl m)] 39))
  have HB3 := Lib.hid (HB.new w3 39 [.int .i64 (wh m), .int .u64 (wl m)])
  clear hU3
  go_wp2_with fail
  obtain ⟨W0, hW0⟩ : ∃ W0, W0 = w3.alloc (.cells #[.int .i64 (wh m), .int .u64 (wl m)] 39) := ⟨_, rfl⟩
  rw [← hW0] at HU3 HB3 ⊢
  refine region_rel2 12 (by kernel_rfl) (by kernel_rfl) rfl (by kernel_rfl) (fun D aa W => ∃ x23 x24 x25 x26 x22 x27 x28 x29 x10 x11 : Value, aa = { tmps := #[.int .i64 a, .int .i64 b, .int .i64 c, undef, undef, undef, .int .i64 0, .int .i64 0, .pointer (some ⟨w3.heap.size, 0, none⟩), .int .i64 0, x10, x11, .tuple #[wide m, .int .i64 0], .int .i64 a, wide a, .int .i64 b, wide b, .tuple #[wide m, .int .i64 0], wide m, .int .i64 0, .int .i64 0, .bool false, x22, x23, x24, x25, x26, x27, x28, x29, undef, undef, undef, undef, undef], defers := [] } ∧ Upd [] W0 W ∧ (D 0 = true → x23 = wide m) ∧ (D 1 = true → x24 = .int .i64 c) ∧ (D 2 = true → x25 = wide c) ∧ (D 3 = true → x26 = .tuple #[wide q, wide r, .int .i64 0]) ∧ (D 4 = true → x22 = .tuple #[wide q, wide r, .int .i64 0]) ∧ (D 5 = true → x27 = wide q) ∧ (D 6 = true → x28 = wide r) ∧ (D 7 = true → x29 = .int .i64 0) ∧ (D 8 = true → (D 10 = false → WBlk W0 W 0 x10)) ∧ (D 9 = true → ABlk W0 W x11) ∧ (D 10 = true → WBlk W0 W q x10) ∧ (D 11 = true → ABlk W0 W x11) ∧ ((D 8 = true → D 9 = true → x10 ≠ x11))) ⟨_, _, _, _, _, _, _, _, _, _, rfl, (Upd.refl _ _).drew, (fun h => by cases h), (fun h => by cases h), (fun h => by cases h), (fun h => by cases h), (fun h => by cases h), (fun h => by cases h), (fun h => by cases h), (fun h => by cases h), (fun h => by cases h), (fun h => by cases h), (fun h => by cases h), (fun h => by cases h), (fun h => by cases h)⟩ ?_ ?_
  · rintro D aa W i o ⟨x23, x24, x25, x26, x22, x27, x28, x29, x10, x11, rfl, hU, h0, h1, h2, h3, h4, h5, h6, h7, h8, h9, h10, h11, hE⟩ hi ho hDi hdep hcl
    match i with
    | 0 =>
      refine wpOp_via ho fun KK hK => ?_
      have HK := Lib.hid hK
      clear hK
      obtain rfl := Option.some.inj ho
      have HUW := Lib.hid hU
      clear hU
      have hs0 := HB3.out.upd HUW.out (by simp)
      have s0 := hs0.cell (j := 0) rfl
      have s1 := hs0.cell (j := 1) rfl
      clear hs0
      go_wp2
      exact HK.out _ _ ⟨_, _, _, _, _, _, _, _, _, _, rfl, HUW.out, (fun _ => rfl), (by simpa using h1), (by simpa using h2), (by simpa using h3), (by simpa using h4), (by simpa using h5), (by simpa using h6), (by simpa using h7), (fun h hd => h8 (by simpa using h) (by simpa using hd)), (fun h => h9 (by simpa using h)), (fun h => h10 (by simpa using h)), (fun h => h11 (by simpa using h)), (fun h h' => hE (by simpa using h) (by simpa using h'))⟩
    | 1 =>
      refine wpOp_via ho fun KK hK => ?_
      have HK := Lib.hid hK
      clear hK
      obtain rfl := Option.some.inj ho
      have HUW := Lib.hid hU
      clear hU
      go_wp2
      exact HK.out _ _ ⟨_, _, _, _, _, _, _, _, _, _, rfl, HUW.out, (by simpa using h0), (fun _ => rfl), (by simpa using h2), (by simpa using h3), (by simpa using h4), (by simpa using h5), (by simpa using h6), (by simpa using h7), (fun h hd => h8 (by simpa using h) (by simpa using hd)), (fun h => h9 (by simpa using h)), (fun h => h10 (by simpa using h)), (fun h => h11 (by simpa using h)), (fun h h' => hE (by simpa using h) (by simpa using h'))⟩
    | 2 =>
      refine wpOp_via ho fun KK hK => ?_
      have HK := Lib.hid hK
      clear hK
      obtain rfl := Option.some.inj ho
      obtain rfl := h1 (hdep ⟨1, .data⟩ (by simp) rfl)
      have HUW := Lib.hid hU
      clear hU
      go_wp2_with fail
      refine (HOC.out _).mono ?_
      rintro e w2 ⟨rfl, hU1⟩
      go_wp2
      exact HK.out _ _ ⟨_, _, _, _, _, _, _, _, _, _, rfl, HUW.out.then hU1, (by simpa using h0), (fun _ => rfl), (fun _ => rfl), (by simpa using h3), (by simpa using h4), (by simpa using h5), (by simpa using h6), (by simpa using h7), (fun h hd => WBlk.upd0 (h8 (by simpa using h) (by simpa using hd)) hU1), (fun h => ABlk.upd0 (h9 (by simpa using h)) hU1), (fun h => WBlk.upd0 (h10 (by simpa using h)) hU1), (fun h => ABlk.upd0 (h11 (by simpa using h)) hU1), (fun h h' => hE (by simpa using h) (by simpa using h'))⟩
    | 3 =>
      refine wpOp_via ho fun KK hK => ?_
      have HK := Lib.hid hK
      clear hK
      obtain rfl := Option.some.inj ho
      obtain rfl := h0 (hdep ⟨0, .data⟩ (by simp) rfl)
      obtain rfl := h2 (hdep ⟨2, .data⟩ (by simp) rfl)
      have HUW := Lib.hid hU
      clear hU
      go_wp2_with fail
      refine (HQ.out _).mono ?_
      rintro e w2 ⟨rfl, hU1⟩
      go_wp2
      exact HK.out _ _ ⟨_, _, _, _, _, _, _, _, _, _, rfl, HUW.out.then hU1, (fun _ => rfl), (by simpa using h1), (fun _ => rfl), (fun _ => rfl), (by simpa using h4), (by simpa using h5), (by simpa using h6), (by simpa using h7), (fun h hd => WBlk.upd0 (h8 (by simpa using h) (by simpa using hd)) hU1), (fun h => ABlk.upd0 (h9 (by simpa using h)) hU1), (fun h => WBlk.upd0 (h10 (by simpa using h)) hU1), (fun h => ABlk.upd0 (h11 (by simpa using h)) hU1), (fun h h' => hE (by simpa using h) (by simpa using h'))⟩
    | 4 =>
      refine wpOp_via ho fun KK hK => ?_
      have HK := Lib.hid hK
      clear hK
      obtain rfl := Option.some.inj ho
      obtain rfl := h3 (hdep ⟨3, .data⟩ (by simp) rfl)
      have HUW := Lib.hid hU
      clear hU
      go_wp2
      exact HK.out _ _ ⟨_, _, _, _, _, _, _, _, _, _, rfl, HUW.out, (by simpa using h0), (by simpa using h1), (by simpa using h2), (fun _ => rfl), (fun _ => rfl), (by simpa using h5), (by simpa using h6), (by simpa using h7), (fun h hd => h8 (by simpa using h) (by simpa using hd)), (fun h => h9 (by simpa using h)), (fun h => h10 (by simpa using h)), (fun h => h11 (by simpa using h)), (fun h h' => hE (by simpa using h) (by simpa using h'))⟩
    | 5 =>
      refine wpOp_via ho fun KK hK => ?_
      have HK := Lib.hid hK
      clear hK
      obtain rfl := Option.some.inj ho
      obtain rfl := h4 (hdep ⟨4, .data⟩ (by simp) rfl)
      have HUW := Lib.hid hU
      clear hU
      go_wp2
      exact HK.out _ _ ⟨_, _, _, _, _, _, _, _, _, _, rfl, HUW.out, (by simpa using h0), (by simpa using h1), (by simpa using h2), (by simpa using h3), (fun _ => rfl), (fun _ => rfl), (by simpa using h6), (by simpa using h7), (fun h hd => h8 (by simpa using h) (by simpa using hd)), (fun h => h9 (by simpa using h)), (fun h => absurd (hcl 10 _ rfl (by simpa using h) ⟨5, .data⟩ (by simp) rfl) (by rw [hDi]; simp)), (fun h => h11 (by simpa using h)), (fun h h' => hE (by simpa using h) (by simpa using h'))⟩
    | 6 =>
      refine wpOp_via ho fun KK hK => ?_
      have HK := Lib.hid hK
      clear hK
      obtain rfl := Option.some.inj ho
      obtain rfl := h4 (hdep ⟨4, .data⟩ (by simp) rfl)
      have HUW := Lib.hid hU
      clear hU
      go_wp2
      exact HK.out _ _ ⟨_, _, _, _, _, _, _, _, _, _, rfl, HUW.out, (by simpa using h0), (by simpa using h1), (by simpa using h2), (by simpa using h3), (fun _ => rfl), (by simpa using h5), (fun _ => rfl), (by simpa using h7), (fun h hd => h8 (by simpa using h) (by simpa using hd)), (fun h => h9 (by simpa using h)), (fun h => h10 (by simpa using h)), (fun h => absurd (hcl 11 _ rfl (by simpa using h) ⟨6, .data⟩ (by simp) rfl) (by rw [hDi]; simp)), (fun h h' => hE (by simpa using h) (by simpa using h'))⟩
    | 7 =>
      refine wpOp_via ho fun KK hK => ?_
      have HK := Lib.hid hK
      clear hK
      obtain rfl := Option.some.inj ho
      obtain rfl := h4 (hdep ⟨4, .data⟩ (by simp) rfl)
      have HUW := Lib.hid hU
      clear hU
      go_wp2
      exact HK.out _ _ ⟨_, _, _, _, _, _, _, _, _, _, rfl, HUW.out, (by simpa using h0), (by simpa using h1), (by simpa using h2), (by simpa using h3), (fun _ => rfl), (by simpa using h5), (by simpa using h6), (fun _ => rfl), (fun h hd => h8 (by simpa using h) (by simpa using hd)), (fun h => h9 (by simpa using h)), (fun h => h10 (by simpa using h)), (fun h => h11 (by simpa using h)), (fun h h' => hE (by simpa using h) (by simpa using h'))⟩
    | 8 =>
      refine wpOp_via ho fun KK hK => ?_
      have HK := Lib.hid hK
      clear hK
      obtain rfl := Option.some.inj ho
      have HUW := Lib.hid hU
      clear hU
      have hx : WBlk W0 (W.alloc (.cells (wc 0).toArray 39)) 0 (.pointer (some ⟨W.heap.size, 0, none⟩)) := ⟨_, rfl, HUW.out.size, HB.new W _ _⟩
      have hU1 := (Upd.refl [] W).alloc (.cells (wc 0).toArray 39)
      go_wp2
      exact HK.out _ _ ⟨_, _, _, _, _, _, _, _, _, _, rfl, HUW.out.then hU1, (by simpa using h0), (by simpa using h1), (by simpa using h2), (by simpa using h3), (by simpa using h4), (by simpa using h5), (by simpa using h6), (by simpa using h7), (fun _ _ => hx), (fun h => ABlk.upd0 (h9 (by simpa using h)) hU1), (fun h => absurd (hcl 10 _ rfl (by simpa using h) ⟨8, .data⟩ (by simp) rfl) (by rw [hDi]; simp)), (fun h => ABlk.upd0 (h11 (by simpa using h)) hU1), (fun _ h' => ABlk.new_ne (h9 (by simpa using h')))⟩
    | 9 =>
      refine wpOp_via ho fun KK hK => ?_
      have HK := Lib.hid hK
      clear hK
      obtain rfl := Option.some.inj ho
      have HUW := Lib.hid hU
      clear hU
      have hx : ABlk W0 (W.alloc (.cells (wc 0).toArray 39)) (.pointer (some ⟨W.heap.size, 0, none⟩)) := ⟨_, 0, rfl, HUW.out.size, HB.new W _ _⟩
      have hU1 := (Upd.refl [] W).alloc (.cells (wc 0).toArray 39)
      go_wp2
      exact HK.out _ _ ⟨_, _, _, _, _, _, _, _, _, _, rfl, HUW.out.then hU1, (by simpa using h0), (by simpa using h1), (by simpa using h2), (by simpa using h3), (by simpa using h4), (by simpa using h5), (by simpa using h6), (by simpa using h7), (fun h hd => WBlk.upd0 (h8 (by simpa using h) (by simpa using hd)) hU1), (fun _ => hx), (fun h => WBlk.upd0 (h10 (by simpa using h)) hU1), (fun h => absurd (hcl 11 _ rfl (by simpa using h) ⟨9, .data⟩ (by simp) rfl) (by rw [hDi]; simp)), (fun h _ => ((h8 (by simpa using h) (by cases hd : D 10 with | false => rfl | true => exact absurd (hcl 10 _ rfl hd ⟨9, .phase⟩ (by simp) rfl) (by rw [hDi]; simp))).toA.new_ne).symm)⟩
    | 10 =>
      refine wpOp_via ho fun KK hK => ?_
      have HK := Lib.hid hK
      clear hK
      obtain rfl := Option.some.inj ho
      obtain rfl := h5 (hdep ⟨5, .data⟩ (by simp) rfl)
      have r8 := h8 (hdep ⟨8, .data⟩ (by simp) rfl) hDi
      have HUW := Lib.hid hU
      clear hU
      obtain ⟨b4, e1, hb1, hb2⟩ := r8
      obtain rfl := e1
      have hst := ((Upd.refl [b4] W).setCell (p := ⟨b4, 0, none⟩) (.inl (by simp)) (.int .i64 (wh q))).setCell (p := ⟨b4, 1, none⟩) (.inl (by simp)) (.int .u64 (wl q))
      have hUF : Upd [] W0 _ := HUW.out.trans hst (fun _ h => h) (fun i hi => .inr (by simp at hi; subst hi; exact hb1))
      have hbz := (hb2.set 0 (.int .i64 (wh q))).set 1 (.int .u64 (wl q))
      have hx : WBlk W0 _ q (.pointer (some ⟨b4, 0, none⟩)) := ⟨b4, rfl, hb1, hbz⟩
      have hG : ∃ b z, Upd [b] W _ ∧ HB _ b 39 (wc z) := ⟨b4, q, hst, hbz⟩
      have z0 := hb2.cell (j := 0) rfl
      have z1 := hb2.cell (j := 1) rfl
      have zf0 := hb2.free 0
      have zf1 := hb2.free 1
      have HX := Lib.hid hx
      have HUF := Lib.hid hUF
      have HST := Lib.hid hst
      have HG := Lib.hid hG
      clear hx hUF hst hb2 hG hbz
      go_wp2
      have hx := HX.out
      have hUF := HUF.out
      have hG := HG.out
      have hst := HST.out
      exact HK.out _ _ ⟨_, _, _, _, _, _, _, _, _, _, rfl, hUF, (by simpa using h0), (by simpa using h1), (by simpa using h2), (by simpa using h3), (by simpa using h4), (fun _ => rfl), (by simpa using h6), (by simpa using h7), (fun _ hd => by simp at hd), (fun h => ABlk.upd0_g (h9 (by simpa using h)) hG), (fun _ => hx), (fun h => ABlk.upd0_g (h11 (by simpa using h)) hG), (fun h h' => hE (by simpa using h) (by simpa using h'))⟩
    | 11 =>
      refine wpOp_via ho fun KK hK => ?_
      have HK := Lib.hid hK
      clear hK
      obtain rfl := Option.some.inj ho
      obtain rfl := h6 (hdep ⟨6, .data⟩ (by simp) rfl)
      have r9 := h9 (hdep ⟨9, .data⟩ (by simp) rfl)
      have HUW := Lib.hid hU
      clear hU
      obtain ⟨b4, z4, e1, hb1, hb2⟩ := r9
      obtain rfl := e1
      have hst := ((Upd.refl [b4] W).setCell (p := ⟨b4, 0, none⟩) (.inl (by simp)) (.int .i64 (wh r))).setCell (p := ⟨b4, 1, none⟩) (.inl (by simp)) (.int .u64 (wl r))
      have hUF : Upd [] W0 _ := HUW.out.trans hst (fun _ h => h) (fun i hi => .inr (by simp at hi; subst hi; exact hb1))
      have hbz := (hb2.set 0 (.int .i64 (wh r))).set 1 (.int .u64 (wl r))
      have hx : ABlk W0 _ (.pointer (some ⟨b4, 0, none⟩)) := ⟨b4, r, rfl, hb1, hbz⟩
      have hG : ∃ b z, Upd [b] W _ ∧ HB _ b 39 (wc z) := ⟨b4, r, hst, hbz⟩
      have z0 := hb2.cell (j := 0) rfl
      have z1 := hb2.cell (j := 1) rfl
      have zf0 := hb2.free 0
      have zf1 := hb2.free 1
      have HX := Lib.hid hx
      have HUF := Lib.hid hUF
      have HST := Lib.hid hst
      have HG := Lib.hid hG
      clear hx hUF hst hb2 hG hbz
      go_wp2
      have hx := HX.out
      have hUF := HUF.out
      have hG := HG.out
      have hst := HST.out
      exact HK.out _ _ ⟨_, _, _, _, _, _, _, _, _, _, rfl, hUF, (by simpa using h0), (by simpa using h1), (by simpa using h2), (by simpa using h3), (by simpa using h4), (by simpa using h5), (fun _ => rfl), (by simpa using h7), (fun _ hd => by have hz := hdep ⟨10, .chain⟩ (by simp) rfl; simp [hz] at hd), (fun h => ABlk.upd0_g (h9 (by simpa using h)) hG), (fun h => WBlk.upd_ne (h10 (by simpa using h)) hst (hE (hcl 10 _ rfl (by simpa using h) ⟨8, .data⟩ (by simp) rfl) (hdep ⟨9, .data⟩ (by simp) rfl))), (fun _ => hx), (fun h h' => hE (by simpa using h) (by simpa using h'))⟩
    | i + 12 => omega
  · rintro D aa W o ⟨x23, x24, x25, x26, x22, x27, x28, x29, x10, x11, rfl, hU, h0, h1, h2, h3, h4, h5, h6, h7, h8, h9, h10, h11, hE⟩ hall ho
    refine wpOp_of_list ho ?_
    obtain rfl := Option.some.inj ho
    obtain rfl := h0 (hall 0 (by omega))
    obtain rfl := h1 (hall 1 (by omega))
    obtain rfl := h2 (hall 2 (by omega))
    obtain rfl := h3 (hall 3 (by omega))
    obtain rfl := h4 (hall 4 (by omega))
    obtain rfl := h5 (hall 5 (by omega))
    obtain rfl := h6 (hall 6 (by omega))
    obtain rfl := h7 (hall 7 (by omega))
    have r8 := h8 (hall 8 (by omega))
    have r9 := h9 (hall 9 (by omega))
    have r10 := h10 (hall 10 (by omega))
    have r11 := h11 (hall 11 (by omega))
    obtain ⟨b4, e1, hb1, hb2⟩ := r10
    obtain rfl := e1
    have z0 := hb2.cell (j := 0) rfl
    have z1 := hb2.cell (j := 1) rfl
    have HUZ := Lib.hid (HU3.out.then hU)
    clear hb2 hU r8 r9 r11 hE
    go_wp2_with fail
    refine (HSM.out _).mono ?_
    rintro e w4 ⟨rfl, hU4⟩
    have HU4 := Lib.hid (HUZ.out.then hU4)
    clear hU4
    go_wp2
    go_ret2
    exact ⟨rfl, HU4.out⟩
def scl (v r : Int) : Int := (v * 1000000).tdiv r
theorem scl_bd {v r : Int} (hv : -1000000000000000 ≤ v ∧ v ≤ 1000000000000000) (hr : 1000 ≤ r) : -1000000000000000000 ≤ scl v r ∧ scl v r ≤ 1000000000000000000 := by
  unfold scl
  have h2 : ((v * 1000000).tdiv r).natAbs = (v * 1000000).natAbs / r.natAbs := Int.natAbs_tdiv _ _
  have h3 : (v * 1000000).natAbs ≤ 1000000000000000000000 := by omega
  have h4 : (v * 1000000).natAbs / r.natAbs ≤ 1000000000000000000000 / 1000 := Nat.le_trans (Nat.div_le_div_left (by omega) (by decide)) (Nat.div_le_div_right h3)
  omega
theorem scale_calls (v r : Int) (hv : -1000000000000000 ≤ v ∧ v ≤ 1000000000000000) (hr : 1000 ≤ r ∧ r ≤ 1000000) (w : World) :
    Calls Tryz.prog 17 #[.int .i64 v, .int .i64 r] w fun e w' => e = .returned (.tuple #[.int .i64 (scl v r), .int .i64 0]) ∧ Upd [] w w' := by
  have hb := scl_bd hv hr.1
  have HP := Lib.hid (fun W => part_calls v 1000000 r (by unfold I64; omega) (by unfold I64; omega) (by unfold I64; omega) (by omega) (by unfold I128; omega) (by unfold I64; unfold scl at hb; omega) W)
  have d1 : decide (r < 1000) = false := decide_eq_false (by omega)
  have d2 : decide (1000000 < r) = false := decide_eq_false (by omega)
  have d3 : decide (1000000000000000 < v) = false := decide_eq_false (by omega)
  have d4 : decide (v < -1000000000000000) = false := decide_eq_false (by omega)
  have HP := Lib.hid (show ∀ W, Calls Tryz.prog 38 #[.int .i64 v, .int .i64 1000000, .int .i64 r] W fun e w' => e = .returned (.tuple #[.int .i64 (scl v r), .int .i64 0]) ∧ Upd [] W w' from HP.out)
  generalize scl v r = q at *
  clear hv hr hb
  go_enter Tryz.func17, Tryz.ntmps17
  go_wp2_with fail
  refine (HP.out _).mono ?_
  rintro e w1 ⟨rfl, hU1⟩
  have HU1 := Lib.hid hU1
  clear hU1
  go_wp2
  go_ret2
  exact ⟨rfl, HU1.out⟩
end Go.Proofs.YthbjpoiolmlpmaaGreatDoor
