/- The comparisons of tumblerref19 (SameSpecs, Same, SameSeries, SameInfo) on equal things answer true; archive.Info. -/
import Derived.Test.YtdjpcinibgbglaaFet
import Derived.Test.YtdjpcinibgbglaaPoints
import Derived.Test.YtdjpcinibgbglaaFileL
import Derived.Test.YtdjpcinibgbglaaCreR
import Derived.Test.YtdjpcinibgbglaaHead
import Derived.Test.YtdjpcinibgbglaaNobody
import Derived.Test.YtdjpcinibgbglaaKern
set_option linter.unusedVariables false
set_option linter.unusedSimpArgs false
namespace Go.Proofs.Ytdjpcinibgbglaa
open Go.RowKit Go.Sort
set_option maxRecDepth 20000 in
set_option maxHeartbeats 1000000 in
theorem sameSpecs_true (F G : Nat → Prop) (va vb : Value) (l : List Spc) (w : World) (ha : RowK w F spcC 2 va l) (hb : RowK w G spcC 2 vb l) :
    Calls Try.prog 31 #[va, vb] w fun e w' => e = .returned (.bool true) ∧ Upd [] w w' := by
  obtain ⟨A, c, rfl, hc1, hc2, hc3⟩ := ha.shape
  obtain ⟨B, d, rfl, _, _, _⟩ := hb.shape
  have hlm := Nat.le_trans hc1 (Nat.le_trans hc2 maxLen_le)
  have HA := Lib.hid ha
  have HB' := Lib.hid hb
  clear ha hb hc1 hc2 hc3
  go_enter Try.func31, Try.ntmps31
  go_wp2
  go_loopw [5] (fun iv wr => ∃ k : Nat, k ≤ l.length ∧ iv = .int .i64 (k : Int) ∧ Upd [] w wr) (fun iv _ => l.length - (intOf iv).toNat)
  case atStart => exact ⟨0, Nat.zero_le _, rfl, Upd.refl _ _⟩
  case round =>
    obtain ⟨k, hk, rfl, hU⟩ := hrel
    have HUR := Lib.hid hU
    clear hU
    by_cases hlt : k < l.length
    · obtain ⟨x, hx⟩ : ∃ x, l[k]? = some x := ⟨_, List.getElem?_eq_getElem hlt⟩
      obtain ⟨ga, oa, rfl, _, ha⟩ := HA.out.at_ hx
      obtain ⟨gb, ob, rfl, _, hb⟩ := HB'.out.at_ hx
      have hkI : (k : Int) < (l.length : Int) := by omega
      have hms : l.length - (k + 1) < l.length - k := by omega
      have a0 := fun d os => rg_cell (HUR.out.cell (show w.cell? ⟨ga, oa + k * 2, none⟩ = some (.int .i64 x.1) from by simpa using ha 0 _ rfl) (by simp)) d os
      have a1 := fun d os => rg_cell (HUR.out.cell (show w.cell? ⟨ga, oa + k * 2 + 1, none⟩ = some (.int .i64 x.2) from ha 1 _ rfl) (by simp)) d os
      have b0 := fun d os => rg_cell (HUR.out.cell (show w.cell? ⟨gb, ob + k * 2, none⟩ = some (.int .i64 x.1) from by simpa using hb 0 _ rfl) (by simp)) d os
      have b1 := fun d os => rg_cell (HUR.out.cell (show w.cell? ⟨gb, ob + k * 2 + 1, none⟩ = some (.int .i64 x.2) from hb 1 _ rfl) (by simp)) d os
      clear hx ha hb
      go_wp2_with fail
      refine wp_region_quiet_below (by kernel_rfl) (by kernel_rfl) ?_
      repeat (go_big_quiet_step (fail))
      refine wpQuiet_nil ?_
      rintro _ ⟨⟨dq, osq⟩, rfl⟩
      have HUK := Lib.hid (HUR.out.then (rg_upd wr dq osq))
      clear a0 b0 a1 b1
      go_wp2
      exact ⟨⟨k + 1, by omega, rfl, HUK.out⟩, by simp [intOf]; omega⟩
    · obtain rfl : k = l.length := by omega
      go_wp2
      go_ret
      exact ⟨rfl, HUR.out⟩
set_option maxRecDepth 20000 in
set_option maxHeartbeats 1000000 in
theorem samePts_true (F G : Nat → Prop) (va vb : Value) (l : List Pt) (w : World) (ha : RowK w F ptR 3 va l) (hb : RowK w G ptR 3 vb l) :
    Calls Try.prog 30 #[va, vb] w fun e w' => e = .returned (.bool true) ∧ Upd [] w w' := by
  obtain ⟨A, c, rfl, hc1, hc2, hc3⟩ := ha.shape
  obtain ⟨B, d, rfl, _, _, _⟩ := hb.shape
  have hlm := Nat.le_trans hc1 (Nat.le_trans hc2 maxLen_le)
  have HA := Lib.hid ha
  have HB' := Lib.hid hb
  clear ha hb hc1 hc2 hc3
  go_enter Try.func30, Try.ntmps30
  go_wp2
  go_loopw [5] (fun iv wr => ∃ k : Nat, k ≤ l.length ∧ iv = .int .i64 (k : Int) ∧ Upd [] w wr) (fun iv _ => l.length - (intOf iv).toNat)
  case atStart => exact ⟨0, Nat.zero_le _, rfl, Upd.refl _ _⟩
  case round =>
    obtain ⟨k, hk, rfl, hU⟩ := hrel
    have HUR := Lib.hid hU
    clear hU
    by_cases hlt : k < l.length
    · obtain ⟨x, hx⟩ : ∃ x, l[k]? = some x := ⟨_, List.getElem?_eq_getElem hlt⟩
      obtain ⟨ga, oa, rfl, _, ha⟩ := HA.out.at_ hx
      obtain ⟨gb, ob, rfl, _, hb⟩ := HB'.out.at_ hx
      have hkI : (k : Int) < (l.length : Int) := by omega
      have hms : l.length - (k + 1) < l.length - k := by omega
      have a0 := fun d os => rg_cell (HUR.out.cell (show w.cell? ⟨ga, oa + k * 3, none⟩ = some (.int .i64 x.t) from by simpa using ha 0 _ rfl) (by simp)) d os
      have a1 := fun d os => rg_cell (HUR.out.cell (show w.cell? ⟨ga, oa + k * 3 + 1, none⟩ = some (.int .i64 (wh x.v)) from ha 1 _ rfl) (by simp)) d os
      have a2 := fun d os => rg_cell (HUR.out.cell (show w.cell? ⟨ga, oa + k * 3 + 2, none⟩ = some (.int .u64 (wl x.v)) from ha 2 _ rfl) (by simp)) d os
      have b0 := fun d os => rg_cell (HUR.out.cell (show w.cell? ⟨gb, ob + k * 3, none⟩ = some (.int .i64 x.t) from by simpa using hb 0 _ rfl) (by simp)) d os
      have b1 := fun d os => rg_cell (HUR.out.cell (show w.cell? ⟨gb, ob + k * 3 + 1, none⟩ = some (.int .i64 (wh x.v)) from hb 1 _ rfl) (by simp)) d os
      have b2 := fun d os => rg_cell (HUR.out.cell (show w.cell? ⟨gb, ob + k * 3 + 2, none⟩ = some (.int .u64 (wl x.v)) from hb 2 _ rfl) (by simp)) d os
      clear hx ha hb
      go_wp2_with fail
      refine wp_region_quiet_below (by kernel_rfl) (by kernel_rfl) ?_
      repeat (go_big_quiet_step (fail))
      refine wpQuiet_nil ?_
      rintro _ ⟨⟨dq, osq⟩, rfl⟩
      have HUK := Lib.hid (HUR.out.then (rg_upd wr dq osq))
      clear a0 b0 a1 b1 a2 b2
      go_wp2
      exact ⟨⟨k + 1, by omega, rfl, HUK.out⟩, by simp [intOf]; omega⟩
    · obtain rfl : k = l.length := by omega
      go_wp2
      go_ret
      exact ⟨rfl, HUR.out⟩
set_option maxRecDepth 20000 in
set_option maxHeartbeats 2000000 in
theorem sameSeries_true (F G : Nat → Prop) (f s : Int) (sa sb : Value) (l : List (Option Int)) (w : World) (ha : RowK w F ceC 3 sa l) (hb : RowK w G ceC 3 sb l) :
    Calls Try.prog 25 #[.agg #[.string .empty, .int .i64 f, .int .i64 s, sa], .agg #[.string .empty, .int .i64 f, .int .i64 s, sb]] w fun e w' => e = .returned (.bool true) ∧ Upd [] w w' := by
  obtain ⟨A, c, rfl, hc1, hc2, hc3⟩ := ha.shape
  obtain ⟨B, d, rfl, _, _, _⟩ := hb.shape
  have hlm := Nat.le_trans hc1 (Nat.le_trans hc2 maxLen_le)
  have hA := (HB.new w 66 [.string .empty, .int .i64 f, .int .i64 s, .slice A l.length c]).alloc (.cells #[.string .empty, .int .i64 f, .int .i64 s, .slice B l.length d] 66)
  have hB := HB.new1 w (.cells #[.string .empty, .int .i64 f, .int .i64 s, .slice A l.length c] 66) 66 [.string .empty, .int .i64 f, .int .i64 s, .slice B l.length d]
  have hU := ((Upd.refl [] w).alloc (.cells #[.string .empty, .int .i64 f, .int .i64 s, .slice A l.length c] 66)).alloc (.cells #[.string .empty, .int .i64 f, .int .i64 s, .slice B l.length d] 66)
  have HRA := Lib.hid (ha.upd0 hU)
  have HRB := Lib.hid (hb.upd0 hU)
  have HU0 := Lib.hid hU
  have a0 := hA.cell (j := 0) rfl
  have a1 := hA.cell (j := 1) rfl
  have a2 := hA.cell (j := 2) rfl
  have a3 := hA.cell (j := 3) rfl
  have HBA := Lib.hid hA
  have HBB := Lib.hid hB
  clear ha hb hc1 hc2 hc3 hA hB hU
  go_enter Try.func25, Try.ntmps25
  go_wp2
  generalize hW0 : (w.alloc (.cells #[.string .empty, .int .i64 f, .int .i64 s, .slice A l.length c] 66)).alloc (.cells #[.string .empty, .int .i64 f, .int .i64 s, .slice B l.length d] 66) = W0 at *
  clear a0 a1 a2 a3
  go_loopw [5] (fun iv wr => ∃ k : Nat, k ≤ l.length ∧ iv = .int .i64 (k : Int) ∧ Upd [] W0 wr) (fun iv _ => l.length - (intOf iv).toNat)
  case atStart => exact ⟨0, Nat.zero_le _, rfl, by subst hW0; exact Upd.refl _ _⟩
  case round =>
    obtain ⟨k, hk, rfl, hU⟩ := hrel
    have HUR := Lib.hid hU
    clear hU
    have h3 := (HBA.out.upd HUR.out (by simp)).cell (j := 3) rfl
    by_cases hlt : k < l.length
    · obtain ⟨x, hx⟩ : ∃ x, l[k]? = some x := ⟨_, List.getElem?_eq_getElem hlt⟩
      obtain ⟨ga, oa, rfl, _, ha⟩ := HRA.out.at_ hx
      obtain ⟨gb, ob, rfl, _, hb⟩ := HRB.out.at_ hx
      have hkI : (k : Int) < (l.length : Int) := by omega
      have hms : l.length - (k + 1) < l.length - k := by omega
      have a0 := fun d os => rg_cell (HUR.out.cell (show W0.cell? ⟨ga, oa + k * 3, none⟩ = some (.bool x.isSome) by simpa using ha 0 _ rfl) (by simp)) d os
      have a1 := fun d os => rg_cell (HUR.out.cell (show W0.cell? ⟨ga, oa + k * 3 + 1, none⟩ = some (.int .i64 (wh (x.getD 0))) from ha 1 _ rfl) (by simp)) d os
      have a2 := fun d os => rg_cell (HUR.out.cell (show W0.cell? ⟨ga, oa + k * 3 + 2, none⟩ = some (.int .u64 (wl (x.getD 0))) from ha 2 _ rfl) (by simp)) d os
      have b0 := fun d os => rg_cell (HUR.out.cell (show W0.cell? ⟨gb, ob + k * 3, none⟩ = some (.bool x.isSome) by simpa using hb 0 _ rfl) (by simp)) d os
      have b1 := fun d os => rg_cell (HUR.out.cell (show W0.cell? ⟨gb, ob + k * 3 + 1, none⟩ = some (.int .i64 (wh (x.getD 0))) from hb 1 _ rfl) (by simp)) d os
      have b2 := fun d os => rg_cell (HUR.out.cell (show W0.cell? ⟨gb, ob + k * 3 + 2, none⟩ = some (.int .u64 (wl (x.getD 0))) from hb 2 _ rfl) (by simp)) d os
      have h3a := fun d os => rg_cell ((HBA.out.upd HUR.out (by simp)).cell (j := 3) rfl) d os
      have h3b := fun d os => rg_cell ((HBB.out.upd HUR.out (by simp)).cell (j := 3) rfl) d os
      clear hx ha hb
      go_wp2_with fail
      refine wp_region_quiet_below (by kernel_rfl) (by kernel_rfl) ?_
      repeat (go_big_quiet_step (fail))
      refine wpQuiet_nil ?_
      rintro _ ⟨⟨dq, osq⟩, rfl⟩
      have HUK := Lib.hid (HUR.out.then (rg_upd wr dq osq))
      clear a0 a1 a2 b0 b1 b2 h3a h3b
      go_wp2
      exact ⟨⟨k + 1, by omega, rfl, HUK.out⟩, by simp [intOf]; omega⟩
    · obtain rfl : k = l.length := by omega
      go_wp2
      go_ret
      exact ⟨rfl, HU0.out.then HUR.out⟩
abbrev infC (m x : Int) (v : Value) : List Value := [.int .i64 m, .int .i64 x, v]
set_option maxHeartbeats 1000000 in
theorem sameInfo_true (F G : Nat → Prop) (m x : Int) (va vb : Value) (l : List Spc) (w : World) (ha : RowK w F spcC 2 va l) (hb : RowK w G spcC 2 vb l) :
    Calls Try.prog 26 #[.agg #[.int .i64 m, .int .i64 x, va], .agg #[.int .i64 m, .int .i64 x, vb]] w fun e w' => e = .returned (.bool true) ∧ Upd [] w w' := by
  have hA := (HB.new w 35 (infC m x va)).alloc (.cells (infC m x vb).toArray 35)
  have hU := ((Upd.refl [] w).alloc (.cells (infC m x va).toArray 35)).alloc (.cells (infC m x vb).toArray 35)
  have HS := Lib.hid (sameSpecs_true F G va vb l _ (ha.upd0 hU) (hb.upd0 hU))
  have HU := Lib.hid hU
  have a0 := hA.cell (j := 0) rfl
  have a1 := hA.cell (j := 1) rfl
  have a2 := hA.cell (j := 2) rfl
  clear ha hb hU hA
  go_enter Try.func26, Try.ntmps26
  go_wp2_with fail
  refine HS.out.mono ?_
  rintro e w1 ⟨rfl, hU1⟩
  go_wp2
  go_ret
  exact ⟨rfl, HU.out.then hU1⟩
theorem spc_one (s : Spc) : ∀ u ∈ spcC s, u.oneCell' = true := by intro u hu; simp [spcC] at hu; rcases hu with rfl | rfl <;> rfl
set_option maxRecDepth 20000 in
set_option maxHeartbeats 4000000 in
theorem info_calls (base fb : Nat) (f : Fl) (v : Value) (Ls : List Loc) (w : World) (hf : FileAt w base fb f v Ls) (hok : f.ok) :
    Calls Try.prog 27 #[.pointer (some ⟨fb, 0, none⟩)] w fun e w' => ∃ v', e = .returned (.agg #[.int .i64 f.m, .int .i64 f.xff, v']) ∧ w'.ownsRow w.heap.size 44 2 v' f.bands.length ((f.bands.map Band.spc).flatMap spcC) ∧ Upd [] w w' := by
  obtain ⟨A, c, rfl, hc1, hc2, hc3⟩ := hf.row.shape
  have hlm := Nat.le_trans hc1 (Nat.le_trans hc2 maxLen_le)
  have hlen := hf.len
  have hle := hok.le
  have hU0 := (Upd.refl [] w).alloc (.cells noInfo.toArray 35)
  have HZ0 := Lib.hid (HB.new w 35 noInfo)
  have HMD := Lib.hid (made_calls base fb f _ Ls _ (hf.upd0 hU0) hok.ne)
  have HF := Lib.hid hf
  have HU0 := Lib.hid hU0
  have hL8 : Ls.length ≤ 8 := by omega
  have HLEN := Lib.hid hlen
  clear hf hok hU0 hc1 hc2 hc3 hlen hle
  go_enter Try.func27, Try.ntmps27
  go_wp2_with fail
  refine HMD.out.mono ?_
  rintro e w1 ⟨rfl, hU1⟩
  have HU1 := Lib.hid (HU0.out.then hU1)
  have HZ1 := Lib.hid (HZ0.out.upd hU1 (by simp))
  have y0 := fun d os => rg_cell ((HF.out.upd0 HU1.out).hf.cell (j := 0) rfl) d os
  have z0 := ((HF.out.upd0 HU1.out).hf.cell (j := 0) rfl)
  have z1 := ((HF.out.upd0 HU1.out).hf.cell (j := 1) rfl)
  have z2 := ((HF.out.upd0 HU1.out).hf.cell (j := 2) rfl)
  clear hU1 y0
  go_wp2_with fail
  have c0 := fun p : Wd [] w1 => p.h.cell z0 (by simp)
  have c1 := fun p : Wd [] w1 => p.h.cell z1 (by simp)
  refine mix_start (n := 11) 10 (fun w' => ∃ p : Wd [] w1, w' = p.v) (by kernel_rfl) (by kernel_rfl) ?_
  refine mix_quiet [true, true, true, true, true, true, true, true, true] 2 rfl (by kernel_rfl) (by kernel_rfl) (by kernel_rfl) (by kernel_rfl) ⟨⟨_, (Upd.refl [] w1).drew⟩, rfl⟩ ?_
  simp only [maskL]
  repeat (go_big_quiet_step (fail))
  refine wpQuiet_nil ?_
  clear c0 c1 z0 z1 z2
  refine mix_one 9 (by kernel_rfl) (by kernel_rfl) rfl ?_
  intro K QF hK
  go_wp2_with fail
  refine hK _ _ ⟨⟨_, ((Upd.refl [] w1).alloc _).drew⟩, rfl⟩ ?_
  clear hK K QF
  have hU2 := ((Upd.refl [] w1).alloc (.cells #[.int .i64 f.m, .int .i64 f.xff, .slice none 0 0] 35))
  have z2 := ((HF.out.upd0 (HU1.out.then hU2)).hf.cell (j := 2) rfl)
  have HI := Lib.hid ((HB.new w1 35 (infC f.m f.xff (.slice none 0 0))).drew)
  have HU2 := Lib.hid hU2.drew
  have HUW := Lib.hid (HU1.out.then hU2.drew)
  have HZ2 := Lib.hid (HZ1.out.upd hU2.drew (by simp))
  have hib : w.heap.size < w1.heap.size := HZ1.out.lt
  clear hU2
  refine mix_tail (by kernel_rfl) (by kernel_rfl) ?_
  simp only [List.drop_succ_cons, List.drop_zero]
  go_wp2_with fail
  generalize hW2 : (w1.alloc (.cells #[.int .i64 f.m, .int .i64 f.xff, .slice none 0 0] 35)).drew = w2 at *
  have hw2 : w1.heap.size < w2.heap.size := HI.out.lt
  clear hW2
  generalize w1.heap.size = ib at *
  clear z2
  go_loopw [24] (fun iv wr => ∃ (k : Nat) (sl : Value), k ≤ Ls.length ∧ iv = .int .i64 (k : Int) ∧ HB wr ib 35 (infC f.m f.xff sl) ∧ wr.ownsRow w2.heap.size 44 2 sl k (((f.bands.map Band.spc).take k).flatMap spcC) ∧ Upd [ib] w2 wr) (fun iv _ => Ls.length - (intOf iv).toNat)
  case atStart => exact ⟨0, .slice none 0 0, Nat.zero_le _, rfl, HI.out, ⟨rfl, .inl ⟨rfl, rfl⟩⟩, Upd.refl _ _⟩
  case round =>
    obtain ⟨k, sl, hk, rfl, hI, hO, hU⟩ := hrel
    have HIR := Lib.hid hI
    have HO := Lib.hid hO
    have HUR := Lib.hid hU
    have hsz := hU.size
    have HUT := Lib.hid (HUW.out.trans hU (fun _ h => h) (fun i hi => .inr (by simp at hi; omega)))
    clear hI hO hU
    by_cases hlt : k < Ls.length
    · obtain ⟨L, hL⟩ : ∃ L, Ls[k]? = some L := ⟨_, List.getElem?_eq_getElem hlt⟩
      obtain ⟨b, hb⟩ : ∃ b, f.bands[k]? = some b := ⟨_, List.getElem?_eq_getElem (by have := HLEN.out; omega)⟩
      have HT := Lib.hid (show (f.bands.map Band.spc).take (k + 1) = (f.bands.map Band.spc).take k ++ [b.spc] by rw [List.take_add_one, List.getElem?_map, hb]; rfl)
      obtain ⟨g, o, rfl, _, hc⟩ := (HF.out.upd0 HUT.out).row.at1 hL
      have HBB := Lib.hid (((HF.out.upd0 HUT.out).band k L b hL hb).hb)
      have hkI : (k : Int) < (Ls.length : Int) := by omega
      obtain ⟨B, q, rfl, _, _, _⟩ := own_shape HO.out
      have c0 := fun p : Wd [] wr => p.h.cell (HIR.out.cell (j := 2) rfl) (by simp)
      have c1 := fun p : Wd [] wr => p.h.cell (HBB.out.cell (j := 0) rfl) (by simp)
      have c2 := fun p : Wd [] wr => p.h.cell (HBB.out.cell (j := 1) rfl) (by simp)
      have hms : Ls.length - (k + 1) < Ls.length - k := by omega
      clear hL hb
      go_wp2_with fail
      refine mix_start (n := 10) 7 (fun w' => ∃ p : Wd [] wr, w' = p.v) (by kernel_rfl) (by kernel_rfl) ?_
      refine mix_quiet [true, true, true, true, true, true] 4 rfl (by kernel_rfl) (by kernel_rfl) (by kernel_rfl) (by kernel_rfl) ⟨⟨_, (Upd.refl [] wr).drew⟩, rfl⟩ ?_
      simp only [maskL]
      repeat (go_big_quiet_step (fail))
      refine wpQuiet_nil ?_
      clear c0 c1 c2
      refine mix_one 6 (by kernel_rfl) (by kernel_rfl) rfl ?_
      intro K QF hK
      go_wp2_with fail
      refine hK _ _ ⟨⟨_, ((Upd.refl _ wr).alloc _).drew⟩, rfl⟩ ?_
      clear hK K QF
      refine mix_tail (by kernel_rfl) (by kernel_rfl) ?_
      simp only [List.drop_succ_cons, List.drop_zero]
      go_wp2_with (at_builtin; go_must (refine wp_append1 w2.heap.size 22 44 _ 2 16 (.slice B k q) k _ (spcC b.spc) _ rfl rfl (by kernel_rfl) infoSp rfl (by decide) (by decide) rfl rfl rfl (spc_one _) (own_upd HO.out ((((Upd.refl [] wr).alloc _).drew)) (by simp)) (HB.new wr 44 (spcC b.spc)).drew (by simp; omega) (by omega) ?_))
      intro v1 w3 hown1 hU1 hat1
      obtain ⟨A1, c1, rfl, _, _, _⟩ := own_shape hown1
      have hUA := (((Upd.refl [] wr).alloc (.cells (spcC b.spc).toArray 44)).drew)
      have hI3 := (HIR.out.upd hUA (by simp)).upd hU1 (own_notin' HO.out HIR.out (by decide))
      have s2 := hI3.cell (j := 2) rfl
      have sf2 := hI3.free 2
      have HI3 := Lib.hid (hI3.set 2 (.slice A1 (k + 1) c1))
      have HO3 := Lib.hid (own_upd hown1 ((Upd.refl [ib] w3).setCell (p := ⟨ib, 2, none⟩) (.inl (by simp)) (.slice A1 (k + 1) c1)) (fun g hg hm => by have := own_base hown1 g hg; simp at hm; omega))
      have HU3 := Lib.hid ((((HUR.out.then0 hUA).trans hU1 (fun _ h => h) (fun i hi => .inr (by have := own_base HO.out i (by simpa using hi); omega)))).setCell (p := ⟨ib, 2, none⟩) (.inl (by simp)) (.slice A1 (k + 1) c1))
      rw [← List.flatMap_singleton spcC b.spc, ← List.flatMap_append, ← HT.out] at HO3
      clear hown1 hU1 hat1 hI3 hUA
      go_wp2
      exact ⟨⟨k + 1, _, hlt, rfl, HI3.out, HO3.out, HU3.out⟩, by simp [intOf]; omega⟩
    · obtain rfl : k = Ls.length := by omega
      obtain ⟨B, q, rfl, _, _, _⟩ := own_shape HO.out
      have a0 := HIR.out.cell (j := 0) rfl
      have a1 := HIR.out.cell (j := 1) rfl
      have a2 := HIR.out.cell (j := 2) rfl
      have HZ := Lib.hid (HZ2.out.upd HUR.out (by simp; omega))
      have y0 := HZ.out.cell (j := 0) rfl
      have y1 := HZ.out.cell (j := 1) rfl
      have y2 := HZ.out.cell (j := 2) rfl
      have f0 := HZ.out.free 0
      have f1 := HZ.out.free 1
      have f2 := HZ.out.free 2
      have hn1 : ¬ (w.heap.size = ib) := by omega
      have hn2 : ¬ (ib = w.heap.size) := by omega
      have HFO := Lib.hid (fun (x0 x1 x2 : Value) => own_upd HO.out (((((Upd.refl [w.heap.size] wr).setCell (p := ⟨w.heap.size, 0, none⟩) (.inl (by simp)) x0).setCell (p := ⟨w.heap.size, 1, none⟩) (.inl (by simp)) x1).setCell (p := ⟨w.heap.size, 2, none⟩) (.inl (by simp)) x2)) (fun g hg hm => by have := own_base HO.out g hg; simp at hm; omega))
      have HFU := Lib.hid (fun (x0 x1 x2 : Value) => (((HUT.out.setCell (p := ⟨w.heap.size, 0, none⟩) (.inr (Nat.le_refl _)) x0).setCell (p := ⟨w.heap.size, 1, none⟩) (.inr (Nat.le_refl _)) x1).setCell (p := ⟨w.heap.size, 2, none⟩) (.inr (Nat.le_refl _)) x2))
      go_wp2
      have hy := ((HZ.out.set 0 (.int .i64 f.m)).set 1 (.int .i64 f.xff)).set 2 (.slice B Ls.length q)
      have k0 := hy.cell (j := 0) rfl
      have k1 := hy.cell (j := 1) rfl
      have k2 := hy.cell (j := 2) rfl
      refine bodyPost_ret (v := .agg #[.int .i64 f.m, .int .i64 f.xff, .slice B Ls.length q]) ?_ rfl ⟨_, rfl, ?_, HFU.out _ _ _⟩
      · simp [results, Try.f27, go_sem, k0, k1, k2]
      · have h := own_base_mono (HFO.out (.int .i64 f.m) (.int .i64 f.xff) (.slice B Ls.length q)) (show w.heap.size ≤ w2.heap.size by omega)
        rw [List.take_of_length_le (by rw [List.length_map, HLEN.out]; exact Nat.le_refl _), HLEN.out] at h
        rw [← HLEN.out] at h ⊢
        exact h
end Go.Proofs.Ytdjpcinibgbglaa
