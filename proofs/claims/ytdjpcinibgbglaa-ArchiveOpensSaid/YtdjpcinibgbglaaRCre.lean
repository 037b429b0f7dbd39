/- tumblerref19.Create of what may be. -/
import Derived.Test.YtdjpcinibgbglaaLawOwn
import Derived.Test.YtdjpcinibgbglaaMixS
set_option linter.unusedVariables false
set_option linter.unusedSimpArgs false
namespace Go.Proofs.Ytdjpcinibgbglaa
open Go.RowKit Go.Sort
theorem infoPs : (Try.prog.info? 41).map (fun i => (i.zero, i.size, i.bytes)) = some (some (.slice none 0 0), 1, 24) := by kernel_rfl
theorem chk_len : ∀ (l : List Spc) (i : Nat) (p : Option Spc), (chk i p l).2 = 0 → i ≤ 8 → i + l.length ≤ 8
  | [], i, _, _, h => h
  | s :: l, i, p, h, hi => by
    unfold chk at h
    split at h
    · cases h
    · rename_i hn
      have := chk_len l (i + 1) (some s) h (by omega)
      rw [List.length_cons]
      omega
theorem check_len {l : List Spc} (h : (check l).2 = 0) : l.length ≤ 8 := by
  unfold check at h
  split at h
  · cases h
  · have := chk_len l 0 none h (by omega)
    omega
set_option maxRecDepth 20000 in
set_option maxHeartbeats 4000000 in
theorem rcre_ok (F : Nat → Prop) (v : Value) (l : List Spc) (m x : Int) (w : World) (hr : RowK w F spcC 2 v l) (hs : ∀ s ∈ l, I64S s) (hc : creErr l m x = 0) :
    Calls Try.prog 16 #[v, .int .i64 m, .int .i64 x] w fun e w' => ∃ sv hv, e = .returned (.tuple #[.agg #[.int .i64 m, .int .i64 x, sv, hv], .int .i64 0]) ∧ w'.ownsRow w.heap.size 44 2 sv l.length (l.flatMap spcC) ∧
      w'.ownsRow w.heap.size 41 1 hv l.length (List.replicate l.length (.slice none 0 0)) ∧ Upd [] w w' := by
  obtain ⟨e1, e2, e3⟩ := creErr_ok hc
  have hl8 := check_len e1
  have hU0 := (Upd.refl [] w).alloc (.cells #[.int .i64 0, .int .i64 0, .slice none 0 0, .slice none 0 0] 38)
  have HB0 := Lib.hid (HB.new w 38 [.int .i64 0, .int .i64 0, .slice none 0 0, .slice none 0 0])
  have hcc := rcheck_calls F v l _ (hr.upd0 hU0) hs
  rw [e1] at hcc
  have HC := Lib.hid hcc
  have HU0 := Lib.hid hU0
  have HR := Lib.hid hr
  obtain ⟨A, c, rfl, hc1, hc2, hc3⟩ := hr.shape
  have d1 : decide (m < 1) = false := decide_eq_false (by omega)
  have d2 : decide (5 < m) = false := decide_eq_false (by omega)
  have d3 : decide (x < 0) = false := decide_eq_false (by omega)
  have d4 : decide (1000000 < x) = false := decide_eq_false (by omega)
  generalize (check l).1 = r1 at *
  clear hcc hU0 e1 e2 e3 hs hr hc
  have HCC := Lib.hid (And.intro hc1 hc3)
  clear hc1 hc2 hc3
  go_enter Try.func16, Try.ntmps16
  go_wp2_with fail
  refine HC.out.mono ?_
  rintro e w1 ⟨rfl, hU1⟩
  have HU1 := Lib.hid (HU0.out.then hU1)
  have HB1 := Lib.hid (HB0.out.upd hU1 (by simp))
  have hUB := (Upd.refl [] w1).alloc (.cells #[.int .i64 m, .int .i64 x, .slice none 0 0, .slice none 0 0] 38)
  have HUB := Lib.hid hUB
  have HI := Lib.hid (HB.new w1 38 [.int .i64 m, .int .i64 x, .slice none 0 0, .slice none 0 0])
  have HN := Lib.hid (row_news spcC (fun _ => rfl) (by decide) (HR.out.upd0 (HU1.out.then hUB)))
  have hrw : w.heap.size < w1.heap.size := HB1.out.lt
  clear HB0 HC hU1 hUB
  go_wp2_with (at_builtin; go_must (refine wp_appendN (w1.heap.size + 1) 22 44 _ 2 16 (.slice none 0 0) 0 [] A l.length c (l.flatMap spcC) rfl rfl (by kernel_rfl) infoSp rfl (by decide) (by decide) rfl rfl HCC.out.2 HCC.out.1 (by rw [flat_length spcC 2 (fun _ => rfl)]) HN.out (fun u hu => by obtain ⟨s, _, hs⟩ := List.mem_flatMap.1 hu; exact spc_one s u hs) ⟨rfl, .inl ⟨rfl, rfl⟩⟩ (by simp) (by omega) ?_))
  intro v1 w2 hown hU2 hat
  have hU2 : Upd [] _ w2 := hU2
  obtain ⟨B, cB, rfl, _, _, _⟩ := own_shape hown
  have HI2 := Lib.hid (HI.out.upd hU2 (by simp))
  have s2 := HI2.out.cell (j := 2) rfl
  have sf2 := HI2.out.free 2
  have hl9 : l.length ≤ 9223372036854775807 := by omega
  have HU2 := Lib.hid (((HUB.out.then hU2).setCell (p := ⟨w1.heap.size, 2, none⟩) (.inr (Nat.le_refl _)) (.slice B l.length cB)))
  have HI3 := Lib.hid (HI2.out.set 2 (.slice B l.length cB))
  have HS3 := Lib.hid (own_upd hown ((Upd.refl [w1.heap.size] w2).setCell (p := ⟨w1.heap.size, 2, none⟩) (.inl (by simp)) (.slice B l.length cB)) (fun g hg hm => by have := own_base hown g hg; simp at hm; omega))
  clear hown hU2 hat d1 d2 d3 d4 HUB HI HN
  go_wp2_with fail
  have HU3 := Lib.hid (HU1.out.then HU2.out)
  generalize hib : w1.heap.size = ib at *
  obtain ⟨W3, hW3⟩ : ∃ W3, W3 = w2.setCell ⟨ib, 2, none⟩ (.slice B l.length cB) := ⟨_, rfl⟩
  rw [← hW3] at HU2 HI3 HS3 HU3
  rw [← hW3]
  have HB3 := Lib.hid (HB1.out.upd HU2.out (by simp))
  clear HI2 s2 sf2 hW3 HU2 HB1 HU1 HU0 hib
  go_loopw [11] (fun iv wr => ∃ (k : Nat) (hv : Value), k ≤ l.length ∧ iv = .int .i64 (k : Int) ∧ HB wr ib 38 [.int .i64 m, .int .i64 x, .slice B l.length cB, hv] ∧ wr.ownsRow (ib + 1) 41 1 hv k (List.replicate k (.slice none 0 0)) ∧ wr.ownsRow (ib + 1) 44 2 (.slice B l.length cB) l.length (l.flatMap spcC) ∧ HB wr w.heap.size 38 [.int .i64 0, .int .i64 0, .slice none 0 0, .slice none 0 0] ∧ Upd [] w wr) (fun iv _ => l.length - (intOf iv).toNat)
  case atStart => exact ⟨0, .slice none 0 0, Nat.zero_le _, rfl, HI3.out, ⟨rfl, .inl ⟨rfl, rfl⟩⟩, HS3.out, HB3.out, HU3.out⟩
  case round =>
    obtain ⟨k, hv, hk, rfl, hI, hH, hS, hB, hU⟩ := hrel
    have HI := Lib.hid hI
    have HH := Lib.hid hH
    have HS := Lib.hid hS
    have HBB := Lib.hid hB
    have HU := Lib.hid hU
    have hil := hI.lt
    clear hI hH hS hB hU HI3 HS3 HB3 HU3
    obtain ⟨D, cD, rfl, _, _, _⟩ := own_shape HH.out
    by_cases hlt : k < l.length
    · have hkI : (k : Int) < (l.length : Int) := by omega
      have s3 := HI.out.cell (j := 3) rfl
      have hUA := (Upd.refl [] wr).alloc (.cells #[.slice none 0 0] 41)
      have HUA := Lib.hid hUA
      have HNB := Lib.hid (HB.new wr 41 [.slice none 0 0])
      clear hUA
      go_wp2_with (at_builtin; go_must (refine wp_append1 (ib + 1) 36 41 _ 1 24 (.slice D k cD) k _ [.slice none 0 0] _ rfl rfl (by kernel_rfl) infoPs rfl (by decide) (by decide) rfl rfl rfl (by simp [Value.oneCell']) (own_upd HH.out HUA.out (by simp)) HNB.out (by simp; omega) (by omega) ?_))
      intro v3 w3 hown hU3 hat
      obtain ⟨D3, cD3, rfl, _, _, _⟩ := own_shape hown
      have hI3 := (HI.out.upd HUA.out (by simp)).upd hU3 (own_notin' HH.out HI.out (by decide))
      have s30 := hI3.cell (j := 3) rfl
      have sf3 := hI3.free 3
      have HI3 := Lib.hid (hI3.set 3 (.slice D3 (k + 1) cD3))
      have HH3 := Lib.hid (own_upd hown ((Upd.refl [ib] w3).setCell (p := ⟨ib, 3, none⟩) (.inl (by simp)) (.slice D3 (k + 1) cD3)) (fun g hg hm => by have := own_base hown g hg; simp at hm; omega))
      have hS3 := own_upd (own_upd HS.out HUA.out (by simp)) hU3 (own_ne2 (own_upd HH.out HUA.out (by simp)) (own_upd HS.out HUA.out (by simp)) (by decide))
      have HS3 := Lib.hid (own_upd hS3 ((Upd.refl [ib] w3).setCell (p := ⟨ib, 3, none⟩) (.inl (by simp)) (.slice D3 (k + 1) cD3)) (fun g hg hm => by have := own_base hS3 g hg; simp at hm; omega))
      have hB3 := (HBB.out.upd HUA.out (by simp)).upd hU3 (own_notin' HH.out HBB.out (by decide))
      have HB3 := Lib.hid (hB3.upd ((Upd.refl [ib] w3).setCell (p := ⟨ib, 3, none⟩) (.inl (by simp)) (.slice D3 (k + 1) cD3)) (by simp; omega))
      have HU3 := Lib.hid (((HU.out.then HUA.out).trans hU3 (fun _ h => h) (fun i hi => .inr (by have := own_base HH.out i (by simpa using hi); omega))).setCell (p := ⟨ib, 3, none⟩) (.inr (show w.heap.size ≤ ib by omega)) (.slice D3 (k + 1) cD3))
      have hrep : List.replicate k (Value.slice none 0 0) ++ [.slice none 0 0] = List.replicate (k + 1) (.slice none 0 0) := (List.replicate_succ' ..).symm
      rw [hrep] at HH3
      have hms : l.length - (k + 1) < l.length - k := by omega
      clear hown hU3 hat hI3 s3 hS3 hB3 hrep
      go_wp2
      exact ⟨⟨k + 1, _, hlt, rfl, HI3.out, HH3.out, HS3.out, HB3.out, HU3.out⟩, by simp [intOf]; omega⟩
    · obtain rfl : k = l.length := by omega
      have a0 := HI.out.cell (j := 0) rfl
      have a1 := HI.out.cell (j := 1) rfl
      have a2 := HI.out.cell (j := 2) rfl
      have a3 := HI.out.cell (j := 3) rfl
      have y0 := HBB.out.cell (j := 0) rfl
      have y1 := HBB.out.cell (j := 1) rfl
      have y2 := HBB.out.cell (j := 2) rfl
      have y3 := HBB.out.cell (j := 3) rfl
      have f0 := HBB.out.free 0
      have f1 := HBB.out.free 1
      have f2 := HBB.out.free 2
      have f3 := HBB.out.free 3
      have hn1 : ¬ (w.heap.size = ib) := by omega
      have hn2 : ¬ (ib = w.heap.size) := by omega
      have HSF := Lib.hid (fun (U : World) (hU : Upd [w.heap.size] wr U) => own_upd HS.out hU (fun g hg hm => by have := own_base HS.out g hg; simp at hm; omega))
      have HHF := Lib.hid (fun (U : World) (hU : Upd [w.heap.size] wr U) => own_upd HH.out hU (fun g hg hm => by have := own_base HH.out g hg; simp at hm; omega))
      have HUF := Lib.hid (fun (U : World) (hU : Upd [w.heap.size] wr U) => HU.out.trans hU (fun _ h => h) (fun i hi => .inr (by simp at hi; omega)))
      go_wp2
      have hy := (((HBB.out.set 0 (.int .i64 m)).set 1 (.int .i64 x)).set 2 (.slice B l.length cB)).set 3 (.slice D l.length cD)
      have k0 := hy.cell (j := 0) rfl
      have k1 := hy.cell (j := 1) rfl
      have k2 := hy.cell (j := 2) rfl
      have k3 := hy.cell (j := 3) rfl
      have hUU := (((((Upd.refl [w.heap.size] wr).setCell (p := ⟨w.heap.size, 0, none⟩) (.inl (by simp)) (.int .i64 m)).setCell (p := ⟨w.heap.size, 1, none⟩) (.inl (by simp)) (.int .i64 x)).setCell (p := ⟨w.heap.size, 2, none⟩) (.inl (by simp)) (.slice B l.length cB)).setCell (p := ⟨w.heap.size, 3, none⟩) (.inl (by simp)) (.slice D l.length cD))
      refine bodyPost_ret (v := .tuple #[.agg #[.int .i64 m, .int .i64 x, .slice B l.length cB, .slice D l.length cD], .int .i64 0]) ?_ rfl ⟨_, _, rfl, own_base_mono (HSF.out _ hUU) (by omega), own_base_mono (HHF.out _ hUU) (by omega), HUF.out _ hUU⟩
      simp [results, Try.f16, go_sem, k0, k1, k2, k3]
end Go.Proofs.Ytdjpcinibgbglaa
