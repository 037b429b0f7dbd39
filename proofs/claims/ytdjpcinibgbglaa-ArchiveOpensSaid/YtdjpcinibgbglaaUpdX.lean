/- (*File).Update, where it refuses; archive.last. (*File).Update: too old, or ahead of now. (*File).Update: ahead of now; and in whole. -/
import Derived.Test.YtdjpcinibgbglaaRoll
set_option linter.unusedVariables false
set_option linter.unusedSimpArgs false
namespace Go.Proofs.Ytdjpcinibgbglaa
open Go.RowKit Go.Sort
set_option maxRecDepth 20000 in
set_option maxHeartbeats 1000000 in
theorem update_arg (base fb : Nat) (f : Fl) (v : Value) (Ls : List Loc) (t val now : Int) (w : World) (hf : FileAt w base fb f v Ls) (hok : f.ok) (hv : I128 val) (h : sec t = false ∨ sec now = false ∨ fitV val 1 = false) :
    Calls Try.prog 20 #[.pointer (some ⟨fb, 0, none⟩), .agg #[.int .i64 t, .int .i64 (wh val), .int .u64 (wl val)], .int .i64 now] w
      fun e w' => e = .returned (.int .i64 1) ∧ Upd [] w w' := by
  have hP := HB.new w 49 [.int .i64 t, .int .i64 (wh val), .int .u64 (wl val)]
  obtain ⟨W0, hW0⟩ : ∃ W0, W0 = w.alloc (.cells #[.int .i64 t, .int .i64 (wh val), .int .u64 (wl val)] 49) := ⟨_, rfl⟩
  rw [← hW0] at hP
  have hU0 : Upd [] w W0 := by rw [hW0]; exact (Upd.refl _ _).alloc _
  have HM := Lib.hid (made_calls base fb f v Ls W0 (hf.upd0 hU0) hok.ne)
  have HP := Lib.hid hP
  have HU0 := Lib.hid hU0
  have HS1 := Lib.hid (fun W => second_calls t W)
  have HS2 := Lib.hid (fun W => second_calls now W)
  have HWI := Lib.hid (fun W => within_calls val 1 W hv (by decide) (by decide))
  clear hf hok hP hU0 hv
  go_enter Try.func20, Try.ntmps20
  go_wp2_with fail
  rw [← hW0]
  refine HM.out.mono ?_
  rintro e w1 ⟨rfl, hU1⟩
  have HU1 := Lib.hid (HU0.out.then hU1)
  have p0 := (HP.out.upd hU1 (by simp)).cell (j := 0) rfl
  have p1 := (HP.out.upd hU1 (by simp)).cell (j := 1) rfl
  have p2 := (HP.out.upd hU1 (by simp)).cell (j := 2) rfl
  clear hU1 hW0 HM
  rcases Bool.eq_false_or_eq_true (sec t) with h1 | h1
  · rw [h1] at HS1
    rcases Bool.eq_false_or_eq_true (sec now) with h2 | h2
    · rw [h2] at HS2
      have h3 : fitV val 1 = false := by rw [h1, h2] at h; simpa using h
      rw [h3] at HWI
      clear h h1 h2 h3
      go_wp2_with fail
      refine (HS1.out _).mono ?_
      rintro e w2 ⟨rfl, rfl⟩
      go_wp2_with fail
      refine (HS2.out _).mono ?_
      rintro e w2 ⟨rfl, rfl⟩
      go_wp2_with fail
      refine (HWI.out _).mono ?_
      rintro e w3 ⟨rfl, hU3⟩
      go_wp2
      go_ret
      exact ⟨rfl, HU1.out.then hU3⟩
    · rw [h2] at HS2
      clear h h1 h2
      go_wp2_with fail
      refine (HS1.out _).mono ?_
      rintro e w2 ⟨rfl, rfl⟩
      go_wp2_with fail
      refine (HS2.out _).mono ?_
      rintro e w2 ⟨rfl, rfl⟩
      go_wp2
      go_ret
      exact ⟨rfl, HU1.out⟩
  · rw [h1] at HS1
    clear h h1
    go_wp2_with fail
    refine (HS1.out _).mono ?_
    rintro e w2 ⟨rfl, rfl⟩
    go_wp2
    go_ret
    exact ⟨rfl, HU1.out⟩
set_option maxHeartbeats 1000000 in
theorem last_calls (F : Nat → Prop) (v : Value) (zs : List Int) (w : World) (hr : RowK w F wc 2 v zs) (hne : zs ≠ []) :
    Calls Try.prog 68 #[v] w fun e w' => e = .returned (wide (zs.getLastD 0)) ∧ Upd [] w w' := by
  obtain ⟨A, c, rfl, hc1, hc2, hc3⟩ := hr.shape
  have hl := List.length_pos_iff.2 hne
  obtain ⟨q, hq⟩ : ∃ q, q + 1 = zs.length := ⟨zs.length - 1, by omega⟩
  have hqx : zs[q]? = some (zs.getLastD 0) := by
    rw [List.getLastD_eq_getLast?, List.getLast?_eq_getElem?, ← hq, Nat.add_sub_cancel, List.getElem?_eq_getElem (by omega)]
    rfl
  obtain ⟨b, o, rfl, _, hcell⟩ := hr.at_ hqx
  obtain ⟨Z, hZ⟩ : ∃ Z, Z = zs.getLastD 0 := ⟨_, rfl⟩
  rw [← hZ] at hcell ⊢
  have hU0 := (Upd.refl [] w).alloc (.cells #[.int .i64 0, .int .u64 0] 47)
  have hz := HB.new w 47 [.int .i64 0, .int .u64 0]
  have hq1 : zs.length - 1 = q := by omega
  have c0 := hU0.cell (show w.cell? ⟨b, o + (zs.length - 1) * 2, none⟩ = some (.int .i64 (wh Z)) by rw [hq1]; simpa using hcell 0 _ rfl) (by simp)
  have c1 := hU0.cell (show w.cell? ⟨b, o + (zs.length - 1) * 2 + 1, none⟩ = some (.int .u64 (wl Z)) by rw [hq1]; exact hcell 1 _ rfl) (by simp)
  have y0 := hz.cell (j := 0) rfl
  have y1 := hz.cell (j := 1) rfl
  have f0 := hz.free 0
  have f1 := hz.free 1
  have HZ := Lib.hid hz
  have HU := Lib.hid hU0
  have hlm := Nat.le_trans hc1 (Nat.le_trans hc2 maxLen_le)
  have hqI : (q : Int) < (zs.length : Int) := by omega
  have ew : wrap64 ((zs.length : Int) - 1) = (q : Int) := by rw [w64 (by unfold I64; omega)]; omega
  clear hr hcell hqx hZ hz hU0 hc1 hc2 hc3 hq hl hne hq1
  go_enter Try.func68, Try.ntmps68
  go_wp2
  have hy := HB.new w 47 [.int .i64 (wh Z), .int .u64 (wl Z)]
  have k0 := hy.cell (j := 0) rfl
  have k1 := hy.cell (j := 1) rfl
  refine bodyPost_ret (v := wide Z) ?_ rfl ⟨rfl, (Upd.refl _ _).alloc _⟩
  simp [results, Try.f68, go_sem, k0, k1]
theorem roll_last : RollOk 3 := fun F v zs W hr hne _ _ _ => last_calls F v zs W hr hne
end Go.Proofs.Ytdjpcinibgbglaa
namespace Go.Proofs.Ytdjpcinibgbglaa
open Go.RowKit Go.Sort
set_option maxRecDepth 20000 in
set_option maxHeartbeats 4000000 in
theorem update_old (base fb : Nat) (f : Fl) (v : Value) (Ls : List Loc) (t val now : Int) (w : World) (hf : FileAt w base fb f v Ls) (hok : f.ok)
    (ht : sec t = true) (hn : sec now = true) (hv : fitV val 1 = true) (hle : t ≤ now) (hlast : f.last ≤ now - t) :
    Calls Try.prog 20 #[.pointer (some ⟨fb, 0, none⟩), .agg #[.int .i64 t, .int .i64 (wh val), .int .u64 (wl val)], .int .i64 now] w
      fun e w' => e = .returned (.int .i64 193) ∧ Upd [] w w' := by
  obtain ⟨A, c, rfl, hc1, hc2, hc3⟩ := hf.row.shape
  have hlen := hf.len
  obtain ⟨q, bl, hq1, hq2, hq3⟩ := file_last hok.ne
  obtain ⟨Ll, hLl⟩ : ∃ L, Ls[q]? = some L := ⟨Ls[q], List.getElem?_eq_getElem (by omega)⟩
  obtain ⟨g, o, rfl, hgo, hcell⟩ := hf.row.at_ hLl
  have hP := HB.new w 49 [.int .i64 t, .int .i64 (wh val), .int .u64 (wl val)]
  obtain ⟨W0, hW0⟩ : ∃ W0, W0 = w.alloc (.cells #[.int .i64 t, .int .i64 (wh val), .int .u64 (wl val)] 49) := ⟨_, rfl⟩
  rw [← hW0] at hP
  have hU0 : Upd [] w W0 := by rw [hW0]; exact (Upd.refl _ _).alloc _
  have HF0 := Lib.hid (hf.upd0 hU0)
  have HP := Lib.hid hP
  have HU0 := Lib.hid hU0
  have htb : 0 ≤ t ∧ t ≤ 1099511627775 := by simpa [sec] using ht
  have hnb : 0 ≤ now ∧ now ≤ 1099511627775 := by simpa [sec] using hn
  have HVB := Lib.hid (show (val.natAbs : Int) ≤ 1208925819614629174706176 by unfold fitV at hv; simp at hv; omega)
  have hvb : I128 val := by unfold fitV at hv; simp at hv; unfold I128; omega
  have HM := Lib.hid (fun W (hW : Upd [] W0 W) => made_calls base fb f _ Ls W (HF0.out.upd0 hW) hok.ne)
  have HS1 := Lib.hid (fun W => second_calls t W)
  have HS2 := Lib.hid (fun W => second_calls now W)
  rw [ht] at HS1
  rw [hn] at HS2
  have HWI := Lib.hid (fun W => within_calls val 1 W hvb (by decide) (by decide))
  rw [hv] at HWI
  have HOK := Lib.hid hok
  have hI : I64 (bl.step * (bl.n : Int)) := by have := reach_le (hok.bands bl (List.mem_of_getElem? hq2)).spc; unfold reachS Band.spc at this; simp only at this; unfold I64; omega
  have hlt' : bl.step * (bl.n : Int) ≤ now - t := by rw [hq3] at hlast; exact hlast
  have hLq : Ls.length = q + 1 := by omega
  have HLQ := Lib.hid hLq
  have HQ2 := Lib.hid hq2
  have HLL := Lib.hid hLl
  have C0 := Lib.hid (show w.cell? ⟨g, o + q, none⟩ = some (pB Ll.b) by simpa using hcell 0 _ rfl)
  have hlm : Ls.length ≤ 9223372036854775807 := Nat.le_trans hc1 (Nat.le_trans hc2 maxLen_le)
  have eq1 : wrap64 ((Ls.length : Int) - 1) = (q : Int) := by rw [w64 (by unfold I64; omega)]; omega
  have eq3 : IntKind.i64.wrap ((Ls.length : Int) - 1) = (q : Int) := by rw [wrapI' (by unfold I64; omega)]; omega
  have hqI : (q : Int) < (Ls.length : Int) := by omega
  have ew1 : IntKind.i64.wrap (now - t) = now - t := wrapI' (by unfold I64; omega)
  have ew2 : wrap64 (now - t) = now - t := w64 (by unfold I64; omega)
  have d1 : decide (now < t) = false := decide_eq_false (by omega)
  have d2 : decide (bl.step * (bl.n : Int) ≤ now - t) = true := decide_eq_true hlt'
  have HC := Lib.hid (And.intro hc1 hc2)
  have HGO := Lib.hid hgo
  have HQ1 := Lib.hid hq1
  have HLAST := Lib.hid hq3
  have HFW := Lib.hid hf
  clear hf hok ht hn hv hlast hc1 hc2 hc3 hlen hq1 hq2 hq3 hLl hcell hgo hP hU0 hlt' hLq
  go_enter Try.func20, Try.ntmps20
  go_wp2_with fail
  rw [← hW0]
  refine (HM.out _ (Upd.refl _ _)).mono ?_
  rintro e w1 ⟨rfl, hU1⟩
  have HU1 := Lib.hid hU1
  have p0 := (HP.out.upd hU1 (by simp)).cell (j := 0) rfl
  have p1 := (HP.out.upd hU1 (by simp)).cell (j := 1) rfl
  have p2 := (HP.out.upd hU1 (by simp)).cell (j := 2) rfl
  clear hU1 hW0
  go_wp2_with fail
  refine (HS1.out _).mono ?_
  rintro e w2 ⟨rfl, rfl⟩
  go_wp2_with fail
  refine (HS2.out _).mono ?_
  rintro e w2 ⟨rfl, rfl⟩
  go_wp2_with fail
  refine (HWI.out _).mono ?_
  rintro e w3 ⟨rfl, hU3⟩
  have HU3 := Lib.hid (HU1.out.then hU3)
  clear hU3 p0 p1 p2
  have hF3 := HF0.out.upd0 HU3.out
  have hP3 := HP.out.upd HU3.out (by simp)
  have hB3 := hF3.band q Ll bl HLL.out HQ2.out
  have x0 := fun d os => rg_cell (hP3.cell (j := 0) rfl) d os
  have x1 := fun d os => rg_cell (hF3.hf.cell (j := 2) rfl) d os
  have x2 := fun d os => rg_cell ((HU0.out.then HU3.out).cell C0.out (by simp)) d os
  have x3 := fun d os => rg_cell (hB3.hb.cell (j := 0) rfl) d os
  have x4 := fun d os => rg_cell (hB3.hb.cell (j := 1) rfl) d os
  clear hF3 hP3 hB3
  go_wp2_with fail
  refine wp_region_quiet_below (by kernel_rfl) (by kernel_rfl) ?_
  repeat (go_big_quiet_step ((go_at_call 43; exact rg_of (reach_calls _ _ (by assumption) _))))
  refine wpQuiet_nil ?_
  rintro _ ⟨⟨dq, osq⟩, rfl⟩
  clear x0 x1 x2 x3 x4
  go_wp2
  go_ret
  exact ⟨rfl, HU0.out.then (HU3.out.then (rg_upd w3 dq osq))⟩
end Go.Proofs.Ytdjpcinibgbglaa
namespace Go.Proofs.Ytdjpcinibgbglaa
open Go.RowKit Go.Sort
set_option maxRecDepth 20000 in
set_option maxHeartbeats 4000000 in
theorem update_ahead (base fb : Nat) (f : Fl) (v : Value) (Ls : List Loc) (t val now : Int) (w : World) (hf : FileAt w base fb f v Ls) (hok : f.ok)
    (ht : sec t = true) (hn : sec now = true) (hv : fitV val 1 = true) (hlt : now < t) :
    Calls Try.prog 20 #[.pointer (some ⟨fb, 0, none⟩), .agg #[.int .i64 t, .int .i64 (wh val), .int .u64 (wl val)], .int .i64 now] w
      fun e w' => e = .returned (.int .i64 193) ∧ Upd [] w w' := by
  have hP := HB.new w 49 [.int .i64 t, .int .i64 (wh val), .int .u64 (wl val)]
  obtain ⟨W0, hW0⟩ : ∃ W0, W0 = w.alloc (.cells #[.int .i64 t, .int .i64 (wh val), .int .u64 (wl val)] 49) := ⟨_, rfl⟩
  rw [← hW0] at hP
  have hU0 : Upd [] w W0 := by rw [hW0]; exact (Upd.refl _ _).alloc _
  have HF0 := Lib.hid (hf.upd0 hU0)
  have HP := Lib.hid hP
  have HU0 := Lib.hid hU0
  have hvb : I128 val := by unfold fitV at hv; simp at hv; unfold I128; omega
  have HM := Lib.hid (fun W (hW : Upd [] W0 W) => made_calls base fb f _ Ls W (HF0.out.upd0 hW) hok.ne)
  have HS1 := Lib.hid (fun W => second_calls t W)
  have HS2 := Lib.hid (fun W => second_calls now W)
  rw [ht] at HS1
  rw [hn] at HS2
  have HWI := Lib.hid (fun W => within_calls val 1 W hvb (by decide) (by decide))
  rw [hv] at HWI
  have d1 : decide (now < t) = true := decide_eq_true hlt
  clear hf hok ht hn hv hP hU0
  go_enter Try.func20, Try.ntmps20
  go_wp2_with fail
  rw [← hW0]
  refine (HM.out _ (Upd.refl _ _)).mono ?_
  rintro e w1 ⟨rfl, hU1⟩
  have HU1 := Lib.hid hU1
  have p0 := (HP.out.upd hU1 (by simp)).cell (j := 0) rfl
  have p1 := (HP.out.upd hU1 (by simp)).cell (j := 1) rfl
  have p2 := (HP.out.upd hU1 (by simp)).cell (j := 2) rfl
  clear hU1 hW0
  go_wp2_with fail
  refine (HS1.out _).mono ?_
  rintro e w2 ⟨rfl, rfl⟩
  go_wp2_with fail
  refine (HS2.out _).mono ?_
  rintro e w2 ⟨rfl, rfl⟩
  go_wp2_with fail
  refine (HWI.out _).mono ?_
  rintro e w3 ⟨rfl, hU3⟩
  have HU3 := Lib.hid (HU1.out.then hU3)
  clear hU3 p0 p1 p2
  have hP3 := HP.out.upd HU3.out (by simp)
  have x0 := fun d os => rg_cell (hP3.cell (j := 0) rfl) d os
  clear hP3
  go_wp2_with fail
  refine wp_region_quiet_below (by kernel_rfl) (by kernel_rfl) ?_
  repeat (go_big_quiet_step (fail))
  refine wpQuiet_nil ?_
  rintro _ ⟨⟨dq, osq⟩, rfl⟩
  clear x0
  go_wp2
  go_ret
  exact ⟨rfl, HU0.out.then (HU3.out.then (rg_upd w3 dq osq))⟩
/-- Update, whatever the point: for a method whose function is known. -/
theorem update_calls (base fb : Nat) (f : Fl) (v : Value) (Ls : List Loc) (t val now : Int) (w : World) (hf : FileAt w base fb f v Ls) (hok : f.ok) (hroll : RollOk f.m) (hval : I128 val) (hbase : base ≤ w.heap.size) :
    Calls Try.prog 20 #[.pointer (some ⟨fb, 0, none⟩), .agg #[.int .i64 t, .int .i64 (wh val), .int .u64 (wl val)], .int .i64 now] w
      fun e w' => e = .returned (.int .i64 (f.update t val now).2) ∧ FileAt w' base fb (f.update t val now).1 v Ls ∧ (f.update t val now).1.ok ∧ Upd (muts Ls) w w' := by
  unfold Fl.update
  by_cases h1 : sec t = false ∨ sec now = false ∨ fitV val 1 = false
  · rw [if_pos h1]
    refine (update_arg base fb f v Ls t val now w hf hok hval h1).mono ?_
    rintro e w' ⟨rfl, hU⟩
    exact ⟨rfl, hf.upd0 hU, hok, hU.of0⟩
  · rw [if_neg h1]
    simp only [not_or, Bool.not_eq_false] at h1
    obtain ⟨ht, hn, hv⟩ := h1
    by_cases h2 : now < t ∨ f.last ≤ now - t
    · rw [if_pos h2]
      by_cases h3 : now < t
      · refine (update_ahead base fb f v Ls t val now w hf hok ht hn hv h3).mono ?_
        rintro e w' ⟨rfl, hU⟩
        exact ⟨rfl, hf.upd0 hU, hok, hU.of0⟩
      · refine (update_old base fb f v Ls t val now w hf hok ht hn hv (by omega) (by omega)).mono ?_
        rintro e w' ⟨rfl, hU⟩
        exact ⟨rfl, hf.upd0 hU, hok, hU.of0⟩
    · rw [if_neg h2]
      refine (update_ok base fb f v Ls t val now w hf hok hroll ht hn hv (by omega) (by omega) hbase).mono ?_
      rintro e w' ⟨rfl, hF, hU⟩
      refine ⟨rfl, hF, hok.upB (by simpa [sec] using ht) ?_, hU⟩
      unfold fitV at hv
      simp at hv
      omega
end Go.Proofs.Ytdjpcinibgbglaa
