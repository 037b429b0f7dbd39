/- tumblerref01: cmpL, mulL. tumblerref01: From, Int. A region that draws its order, whose last operation waits for all the others: an invariant over what has been done, the last operation apart. tumblerref01: Int, CmpN, MulN; tumblerref19: size, Fits. tumblerref01: MulN; tumblerref19: size, Fits. tumblerref19: size, Fits. -/
import Derived.Test.YtdjpcinibgbglaaRNum
import Derived.Test.YtdjpcinibgbglaaKern
import Derived.Test.YtdjpcinibgbglaaBits
import Derived.WalkSpells
import Derived.Laws.MakeOwn
import Derived.Test.YtdjpcinibgbglaaCreR
import Derived.Deep.RegionWith
set_option linter.unusedVariables false
set_option linter.unusedSimpArgs false
namespace Go.Proofs.Ytdjpcinibgbglaa
open Go.RowKit Go.Sort
set_option maxHeartbeats 1000000 in
theorem cmpL_calls (F G : Nat → Prop) (v u : Value) (a b : List Int) (w : World) (hv : RowK w F uc 1 v a) (hu : RowK w G uc 1 u b) (la : Limbs a) (lb : Limbs b) :
    Calls Try.prog 63 #[v, u] w fun e w' => e = .returned (.int .i64 (cmpW (lv a) (lv b))) ∧ Upd [] w w' := by
  have HT1 := Lib.hid (trim_calls F v a w hv)
  have HT2 := Lib.hid (fun W (hW : Upd [] w W) => trim_calls G u b W (hu.upd0 hW))
  have HV := Lib.hid hv
  have HU := Lib.hid hu
  rw [← trimL_lv a, ← trimL_lv b]
  have LA := Lib.hid (trimL_limbs la)
  have LB := Lib.hid (trimL_limbs lb)
  have CA := Lib.hid (trimL_canon a)
  have CB := Lib.hid (trimL_canon b)
  obtain ⟨a', ha'⟩ : ∃ a', a' = trimL a := ⟨_, rfl⟩
  obtain ⟨b', hb'⟩ : ∃ b', b' = trimL b := ⟨_, rfl⟩
  rw [← ha'] at HT1 LA CA ⊢
  rw [← hb'] at HT2 LB CB ⊢
  obtain ⟨r, hr⟩ : ∃ r, r = cmpW (lv a') (lv b') := ⟨_, rfl⟩
  rw [← hr]
  have HR := Lib.hid hr
  clear hv hu la lb ha' hb' hr
  go_enter Try.func63, Try.ntmps63
  go_wp2_with fail
  refine HT1.out.mono ?_
  rintro e w1 ⟨v', rfl, hs1, hU1⟩
  go_wp2_with fail
  refine (HT2.out _ hU1).mono ?_
  rintro e w2 ⟨u', rfl, hs2, hU2⟩
  have hU12 := hU1.then hU2
  have hra := hs1 _ _ (HV.out.upd0 hU12)
  have hrb := hs2 _ _ (HU.out.upd0 hU12)
  obtain ⟨A, c, rfl, hc1, hc2, hc3⟩ := hra.shape
  obtain ⟨B, d, rfl, hd1, hd2, hd3⟩ := hrb.shape
  have hlma := Nat.le_trans hc1 (Nat.le_trans hc2 maxLen_leA)
  have hlmb := Nat.le_trans hd1 (Nat.le_trans hd2 maxLen_leA)
  have HRA := Lib.hid hra
  have HRB := Lib.hid hrb
  have HU12 := Lib.hid hU12
  clear hs1 hs2 hU1 hU2 hU12 hra hrb hc1 hc2 hc3 hd1 hd2 hd3 HT1 HT2
  by_cases h1 : a'.length < b'.length
  · have hlt := len_lt LA.out LB.out CB.out h1
    obtain rfl : r = -1 := by rw [HR.out]; unfold cmpW; rw [if_pos hlt]
    have e1 : ((a'.length : Int) != (b'.length : Int)) = true := by simp; omega
    have e2 : decide ((a'.length : Int) < (b'.length : Int)) = true := decide_eq_true (by omega)
    clear hlt
    go_wp2
    go_ret
    exact ⟨rfl, HU12.out⟩
  · by_cases h2 : b'.length < a'.length
    · have hlt := len_lt LB.out LA.out CA.out h2
      obtain rfl : r = 1 := by rw [HR.out]; unfold cmpW; rw [if_neg (by omega), if_neg (by omega)]
      have e1 : ((a'.length : Int) != (b'.length : Int)) = true := by simp; omega
      have e2 : decide ((a'.length : Int) < (b'.length : Int)) = false := decide_eq_false (by omega)
      clear hlt
      go_wp2
      go_ret
      exact ⟨rfl, HU12.out⟩
    · have hl : b'.length = a'.length := by omega
      have HL := Lib.hid hl
      have e1 : ((a'.length : Int) != (b'.length : Int)) = false := by simp; omega
      have e3 : wrap64 ((a'.length : Int) - 1) = (a'.length : Int) - 1 := w64 (by unfold I64; omega)
      clear h1 h2 hl
      go_wp2
      go_loopw [5] (fun i wr => ∃ k : Nat, k ≤ a'.length ∧ i = .int .i64 ((k : Int) - 1) ∧ a'.drop k = b'.drop k ∧ Upd [] w2 wr) (fun i _ => ((intOf i) + 1).toNat)
      case atStart => exact ⟨a'.length, Nat.le_refl _, rfl, by rw [List.drop_of_length_le (Nat.le_refl _), List.drop_of_length_le (Nat.le_of_eq HL.out)], Upd.refl _ _⟩
      case round =>
        obtain ⟨k, hk, rfl, hd, hU⟩ := hrel
        have HD := Lib.hid hd
        have HUR := Lib.hid hU
        clear hd
        rcases k with _ | k
        · obtain rfl : r = 0 := by
            have := HD.out
            rw [List.drop_zero, List.drop_zero] at this
            rw [HR.out, this]; unfold cmpW; rw [if_neg (by omega), if_pos rfl]
          go_wp2
          go_ret
          exact ⟨rfl, HU12.out.then HUR.out⟩
        · obtain ⟨x, hx⟩ : ∃ x, a'[k]? = some x := ⟨a'[k], List.getElem?_eq_getElem (by omega)⟩
          obtain ⟨y, hy⟩ : ∃ y, b'[k]? = some y := ⟨b'[k]'(by have := HL.out; omega), List.getElem?_eq_getElem _⟩
          have ek : (((k + 1 : Nat) : Int) - 1) = (k : Int) := by omega
          rw [ek]
          obtain ⟨g, o, rfl, _, hcx⟩ := HRA.out.at_ hx
          obtain ⟨g', o', rfl, _, hcy⟩ := HRB.out.at_ hy
          have c0 : wr.cell? ⟨g, o + k, none⟩ = some (.int .u32 x) := hU.cell (by simpa using hcx 0 _ rfl) (by simp)
          have c1 : wr.cell? ⟨g', o' + k, none⟩ = some (.int .u32 y) := hU.cell (by simpa using hcy 0 _ rfl) (by simp)
          have hkI : (k : Int) < (a'.length : Int) := by omega
          have hkI2 : (k : Int) < (b'.length : Int) := by have := HL.out; omega
          have hk0 : (0 : Int) ≤ (k : Int) := by omega
          have hwk : wrap64 ((k : Int) - 1) = (k : Int) - 1 := w64 (by unfold I64; omega)
          have HX := Lib.hid hx
          have HY := Lib.hid hy
          clear hcx hcy hx hy hU ek
          by_cases h3 : x < y
          · obtain rfl : r = -1 := by rw [HR.out]; unfold cmpW; rw [if_pos (top_lt LA.out LB.out HX.out HY.out HD.out h3)]
            have d3 : decide (x < y) = true := decide_eq_true h3
            clear h3
            go_wp2_with fail
            go_region
            go_wp2
            go_ret
            exact ⟨rfl, HU12.out.then HUR.out.drew⟩
          · have d3 : decide (x < y) = false := decide_eq_false h3
            by_cases h4 : y < x
            · obtain rfl : r = 1 := by
                have := top_lt LB.out LA.out HY.out HX.out HD.out.symm h4
                rw [HR.out]; unfold cmpW; rw [if_neg (by omega), if_neg (by omega)]
              have d4 : decide (y < x) = true := decide_eq_true h4
              clear h3 h4
              go_wp2_with fail
              go_region
              go_wp2_with fail
              go_region
              go_wp2
              go_ret
              exact ⟨rfl, HU12.out.then HUR.out.drew.drew⟩
            · have d4 : decide (y < x) = false := decide_eq_false h4
              have hxy : x = y := by omega
              have HD2 := Lib.hid (show a'.drop k = b'.drop k by
                rw [List.drop_eq_getElem_cons (show k < a'.length by omega), List.drop_eq_getElem_cons (show k < b'.length by have := HL.out; omega), HD.out]
                have h5 := HX.out
                have h6 := HY.out
                rw [List.getElem?_eq_getElem (by omega)] at h5 h6
                injection h5 with h5
                injection h6 with h6
                rw [h5, h6, hxy])
              clear h3 h4 hxy
              go_wp2_with fail
              go_region
              go_wp2_with fail
              go_region
              go_wp2
              exact ⟨⟨k, by omega, rfl, HD2.out, HUR.out.drew.drew⟩, by simp [intOf]⟩
def cs (l : List Int) : List Value := l.map (Value.int .u32)
theorem cs_get {l : List Int} {i : Nat} {x : Int} (h : l[i]? = some x) : (cs l)[i]? = some (.int .u32 x) := by simp [cs, h]
theorem cs_set (l : List Int) (i : Nat) (y : Int) : (cs l).set i (.int .u32 y) = cs (l.set i y) := by simp [cs, List.map_set]
theorem cs_flat (l : List Int) : l.flatMap uc = cs l := by
  induction l with
  | nil => rfl
  | cons x l ih => rw [List.flatMap_cons, ih]; rfl
theorem hb_rowU {w : World} {b : Nat} {l : List Int} (h : HB w b 118 (cs l)) (hl : l.length ≤ maxLen) : RowK w (· = b) uc 1 (.slice (some ⟨b, 0, none⟩) l.length l.length) l :=
  ⟨some ⟨b, 0, none⟩, l.length, rfl, Nat.le_refl _, hl, by simp, fun i x hx => ⟨b, 0, rfl, rfl, fun j u hj => by
    cases j with
    | zero => simp [uc] at hj; subst hj; simpa using h.cell (cs_get hx)
    | succ j => simp [uc] at hj⟩⟩
theorem infoU : (Try.prog.info? 118).map (fun i => (i.zero, i.size, i.bytes)) = some (some (.int .u32 0), 1, 4) := by kernel_rfl
theorem made_cs (n : Nat) : madeCells #[Value.int .u32 0] (n * 1) = (cs (List.replicate n 0)).toArray := by
  apply Array.ext_getElem?
  intro j
  by_cases hj : j < n
  · simp [madeCells, cs, hj, Nat.mod_one]
  · rw [Array.getElem?_eq_none (by rw [size_madeCells]; omega)]
    simp [cs, hj]
theorem mk_u32 (n : Nat) (hn : n ≤ 1000000) (W : World) : (Instr.makeSlice 96 (.int .i64 (n : Int)) (.int .i64 (n : Int))).run Try.prog W = .ok (.slice (some ⟨W.heap.size, 0, none⟩) n n) (W.alloc (.cells (cs (List.replicate n 0)).toArray 118)) := by
  obtain ⟨i, hi, hzz⟩ := Option.map_eq_some_iff.1 infoU
  simp only [Prod.mk.injEq] at hzz
  obtain ⟨hz, hs, hb⟩ := hzz
  have h := run_make (P := Try.prog) W 96 118 i _ (by kernel_rfl) hi hz .i64 .i64 n n (by omega) (Int.le_refl _) (by rw [hb]; omega) (by omega)
  rw [hs] at h
  simp only [Int.toNat_natCast] at h
  rw [h, ← made_cs n]
  rfl
set_option maxRecDepth 4000 in
set_option maxHeartbeats 2000000 in
theorem mulL_calls (F G : Nat → Prop) (v u : Value) (a b : List Int) (w : World) (hv : RowK w F uc 1 v a) (hu : RowK w G uc 1 u b) (la : Limbs a) (lb : Limbs b) (hn : a.length + b.length ≤ 1000000) :
    Calls Try.prog 81 #[v, u] w fun e w' => ∃ v' l', e = .returned v' ∧ RowK w' (w.heap.size ≤ ·) uc 1 v' l' ∧ Limbs l' ∧ Canon l' ∧ lv l' = lv a * lv b ∧ l'.length ≤ a.length + b.length ∧ Upd [] w w' := by
  obtain ⟨A, c, rfl, hc1, hc2, hc3⟩ := hv.shape
  obtain ⟨B, d, rfl, hd1, hd2, hd3⟩ := hu.shape
  have hwn : wrap64 ((a.length : Int) + (b.length : Int)) = ((a.length + b.length : Nat) : Int) := by rw [w64 (by unfold I64; omega)]; omega
  have hwn2 : IntKind.i64.wrap ((a.length : Int) + (b.length : Int)) = ((a.length + b.length : Nat) : Int) := by rw [wrapI' (by unfold I64; omega)]; omega
  have hmk := mk_u32 (a.length + b.length) hn w
  rw [Int.natCast_add] at hmk
  have hHB := HB.new w 118 (cs (List.replicate (a.length + b.length) 0))
  have HHB := Lib.hid hHB
  have HU0 := Lib.hid ((Upd.refl [] w).alloc (.cells (cs (List.replicate (a.length + b.length) 0)).toArray 118))
  have HV := Lib.hid hv
  have HU := Lib.hid hu
  have LA := Lib.hid la
  have LB := Lib.hid lb
  have hla : a.length ≤ 1000000 := by omega
  have hlb : b.length ≤ 1000000 := by omega
  clear hv hu la lb hHB hc1 hc2 hc3 hd1 hd2 hd3
  go_enter Try.func81, Try.ntmps81
  go_wp2
  clear hmk
  go_loopw [6] (fun i wr => ∃ (k : Nat) (out : List Int), k ≤ a.length ∧ i = .int .i64 (k : Int) ∧ MulJ a b k 0 out 0 ∧ HB wr w.heap.size 118 (cs out) ∧ Upd [] w wr) (fun i _ => a.length - (intOf i).toNat)
  case atStart => exact ⟨0, _, Nat.zero_le _, rfl, MulJ.start a b, HHB.out, HU0.out⟩
  case round =>
    obtain ⟨k, out, hk, rfl, hM, hB, hUr⟩ := hrel
    generalize wr = wo at *
    have HM := Lib.hid hM
    have HBR := Lib.hid hB
    have HUR := Lib.hid hUr
    clear hM hB hUr
    by_cases hlt : k < a.length
    · have hkI : (k : Int) < (a.length : Int) := by omega
      go_wp2
      go_loopw [7, 8] (fun cv j wi => ∃ (q : Nat) (cc : Int) (o2 : List Int), cv = .int .u64 cc ∧ j = .int .i64 (q : Int) ∧ MulJ a b k q o2 cc ∧ HB wi w.heap.size 118 (cs o2) ∧ Upd [] w wi ∧ q ≤ a.length + b.length) (fun _ j _ => a.length + b.length - (intOf j).toNat)
      case atStart => exact ⟨0, 0, out, rfl, rfl, HM.out, HBR.out, HUR.out, Nat.zero_le _⟩
      case round =>
        obtain ⟨q, cc, o2, rfl, rfl, hM, hB, hUr, hq⟩ := hrel
        have HM2 := Lib.hid hM
        have HB2 := Lib.hid hB
        have HU2 := Lib.hid hUr
        have hcb := hM.cb
        obtain ⟨x, hx⟩ : ∃ x, a[k]? = some x := ⟨a[k], List.getElem?_eq_getElem hlt⟩
        obtain ⟨g, o, rfl, _, hcx⟩ := HV.out.at_ hx
        have xa : wr.cell? ⟨g, o + k, none⟩ = some (.int .u32 x) := hUr.cell (by simpa using hcx 0 _ rfl) (by simp)
        have hxb := LA.out x (List.mem_of_getElem? hx)
        obtain ⟨y, hy⟩ : ∃ y, y = b.getD q 0 := ⟨_, rfl⟩
        have hyb := limb_bd LB.out q
        rw [← hy] at hyb
        have HLIMB := Lib.hid (fun W (hW : Upd [] w W) => limb_calls G _ b q W (HU.out.upd0 hW))
        rw [← hy] at HLIMB
        have HX := Lib.hid hx
        have HY := Lib.hid hy
        clear hM hB hUr hcx hx hy
        by_cases hg : q < b.length ∨ 0 < cc
        · have hroom := HM2.out.room LA.out LB.out hlt hg
          obtain ⟨z, hz⟩ : ∃ z, o2[k + q]? = some z := ⟨o2[k + q]'(by rw [HM2.out.len]; exact hroom), List.getElem?_eq_getElem _⟩
          have hzb := HM2.out.limbs z (List.mem_of_getElem? hz)
          have xz := HB2.out.cell (cs_get hz)
          have HZ := Lib.hid hz
          clear hz
          have hp0 : 0 ≤ x * y := Int.mul_nonneg hxb.1 hyb.1
          have hp1 : x * y ≤ 65535 * 65535 := Int.mul_le_mul hxb.2 hyb.2 hyb.1 (by decide)
          have x0 := fun d os => rg_cell xa d os
          have x1 := fun d os => rg_cell xz d os
          by_cases hqb : q < b.length
          · have d1 : decide ((q : Int) < (b.length : Int)) = true := decide_eq_true (by omega)
            go_wp2_with fail
            refine wp_region_quiet_below (by kernel_rfl) (by kernel_rfl) ?_
            repeat (go_big_quiet_step ((go_at_call 101; exact rg_of (HLIMB.out _ (HU2.out.then (rg_upd _ _ _))))))
            refine wpQuiet_nil ?_
            rintro _ ⟨⟨dq, osq⟩, rfl⟩
            clear x0 x1
            obtain ⟨W1, hW1⟩ : ∃ W1, W1 = grow (redrawn wr dq) osq := ⟨_, rfl⟩
            have hU3 : Upd [] w W1 := by rw [hW1]; exact HU2.out.then (rg_upd _ _ _)
            have hB3 : HB W1 w.heap.size 118 (cs o2) := by rw [hW1]; exact HB2.out.upd (rg_upd _ _ _) (by simp)
            have f0 := hB3.free (k + q)
            have q0 := hB3.cell (cs_get HZ.out)
            obtain ⟨S, hS⟩ : ∃ S, S = z + x * y + cc := ⟨_, rfl⟩
            have hSb : 0 ≤ S ∧ S ≤ 4294967295 := by omega
            have hand := and_u64 (a := S) ⟨by omega, by omega⟩
            have hst := HM2.out.step LA.out LB.out HZ.out
            rw [← HY.out, show a.getD k 0 = x by rw [List.getD_eq_getElem?_getD, HX.out]; rfl, ← hS] at hst
            have HST := Lib.hid hst
            have HB3 := Lib.hid hB3
            have HU3 := Lib.hid hU3
            rw [← hW1, ← hS]
            clear hW1 hU3 hB3 hS hst hp0 hp1 hzb hyb hxb hcb xa xz
            go_wp2
            exact ⟨⟨q + 1, S / 65536, o2.set (k + q) (S % 65536), rfl, rfl, HST.out, by rw [← cs_set]; exact HB3.out.set _ _, HU3.out.setCell (.inr (Nat.le_refl _)) _, by omega⟩, by simp [intOf]; omega⟩
          · have d1 : decide ((q : Int) < (b.length : Int)) = false := decide_eq_false (by omega)
            have d2 : decide (0 < cc) = true := decide_eq_true (by omega)
            go_wp2_with fail
            refine wp_region_quiet_below (by kernel_rfl) (by kernel_rfl) ?_
            repeat (go_big_quiet_step ((go_at_call 101; exact rg_of (HLIMB.out _ (HU2.out.then (rg_upd _ _ _))))))
            refine wpQuiet_nil ?_
            rintro _ ⟨⟨dq, osq⟩, rfl⟩
            clear x0 x1
            obtain ⟨W1, hW1⟩ : ∃ W1, W1 = grow (redrawn wr dq) osq := ⟨_, rfl⟩
            have hU3 : Upd [] w W1 := by rw [hW1]; exact HU2.out.then (rg_upd _ _ _)
            have hB3 : HB W1 w.heap.size 118 (cs o2) := by rw [hW1]; exact HB2.out.upd (rg_upd _ _ _) (by simp)
            have f0 := hB3.free (k + q)
            have q0 := hB3.cell (cs_get HZ.out)
            obtain ⟨S, hS⟩ : ∃ S, S = z + x * y + cc := ⟨_, rfl⟩
            have hSb : 0 ≤ S ∧ S ≤ 4294967295 := by omega
            have hand := and_u64 (a := S) ⟨by omega, by omega⟩
            have hst := HM2.out.step LA.out LB.out HZ.out
            rw [← HY.out, show a.getD k 0 = x by rw [List.getD_eq_getElem?_getD, HX.out]; rfl, ← hS] at hst
            have HST := Lib.hid hst
            have HB3 := Lib.hid hB3
            have HU3 := Lib.hid hU3
            rw [← hW1, ← hS]
            clear hW1 hU3 hB3 hS hst hp0 hp1 hzb hyb hxb hcb xa xz
            go_wp2
            exact ⟨⟨q + 1, S / 65536, o2.set (k + q) (S % 65536), rfl, rfl, HST.out, by rw [← cs_set]; exact HB3.out.set _ _, HU3.out.setCell (.inr (Nat.le_refl _)) _, by omega⟩, by simp [intOf]; omega⟩
        · have d1 : decide ((q : Int) < (b.length : Int)) = false := decide_eq_false (by omega)
          obtain rfl : cc = 0 := by omega
          have HM3 := Lib.hid (HM2.out.done (by omega))
          go_wp2
          exact ⟨⟨k + 1, o2, by omega, rfl, HM3.out, HB2.out, HU2.out⟩, by simp [intOf]; omega⟩
    · obtain rfl : k = a.length := by omega
      have hmul := HM.out.last
      have hrow := (hb_rowU HBR.out (by have := HM.out.len; unfold maxLen; omega)).mono (fun g hg => hg)
      have hl := HM.out.len
      have HT := Lib.hid (trim_calls _ _ out wo hrow)
      rw [hl] at HT hrow
      have HROW := Lib.hid hrow
      have HMUL := Lib.hid hmul
      clear hrow hmul hl
      go_wp2_with fail
      refine HT.out.mono ?_
      rintro e w2 ⟨v', rfl, hsub, hU2⟩
      have hres := hsub _ _ (HROW.out.upd0 hU2)
      have HRES := Lib.hid (hres.mono (G := (w.heap.size ≤ ·)) (fun g hg => by subst hg; exact Nat.le_refl _))
      have HU2 := Lib.hid (HUR.out.then hU2)
      clear hres hsub hU2
      go_wp2
      go_ret
      exact ⟨_, trimL out, rfl, HRES.out, trimL_limbs HM.out.limbs, trimL_canon _, by rw [trimL_lv]; exact HMUL.out, by have := trimL_length out; have := HM.out.len; omega, HU2.out⟩
end Go.Proofs.Ytdjpcinibgbglaa
namespace Go.Proofs.Ytdjpcinibgbglaa
open Go.RowKit Go.Sort
def NumAt (w : World) (F : Nat → Prop) (v : Value) (n : Int) (K : Nat) : Prop := ∃ sl l, v = .agg #[.bool (decide (n < 0)), sl] ∧ RowK w F uc 1 sl l ∧ Limbs l ∧ Canon l ∧ lv l = n.natAbs ∧ l.length ≤ K
def lim (x : Int) : Nat → List Int
  | 0 => []
  | k + 1 => lim x k ++ [x / 65536 ^ k % 65536]
theorem lim_len (x : Int) : ∀ k, (lim x k).length = k
  | 0 => rfl
  | k + 1 => by simp [lim, lim_len x k]
theorem lim_limbs (x : Int) : ∀ k, Limbs (lim x k)
  | 0 => by intro y hy; simp [lim] at hy
  | k + 1 => by
    intro y hy
    simp only [lim, List.mem_append, List.mem_singleton] at hy
    rcases hy with hy | rfl
    · exact lim_limbs x k y hy
    · omega
theorem lim4 {x : Int} (h : U64 x) : lv (lim x 4) = x := by
  unfold U64 at h
  simp [lim, lv]
  omega
theorem lim_and {L : Int} (h : U64 L) (k : Nat) : bits .and .u32 (L / 2 ^ (16 * k) % 4294967296) 65535 = L / 65536 ^ k % 65536 := by
  rw [and_u32 (by omega) (by omega), Int.pow_mul]
  show L / 65536 ^ k % 4294967296 % 65536 = _
  omega
theorem cs_app (l r : List Int) : cs (l ++ r) = cs l ++ cs r := by simp [cs]
theorem own_notin {W : World} {base : Nat} {e : TypeId} {size n : Nat} {v : Value} {xs : List Value} (h : W.ownsRow base e size v n xs) {T : TypeId} {c : List Value} {fb : Nat} (hf : HB W fb T c) (hT : e ≠ T) : fb ∉ v.ownBlock.toList := by
  intro hm
  simp at hm
  exact own_ne h hf hT fb hm rfl
theorem uc_one (x : Int) : ∀ u ∈ uc x, u.oneCell' = true := by intro u hu; simp [uc] at hu; subst hu; rfl
def mag (z : Int) : Int × Int := ((z.natAbs : Int) / 18446744073709551616, (z.natAbs : Int) % 18446744073709551616)
theorem lim_append (L H : Int) (i j : Nat) : Limbs (lim L i ++ lim H j) := by
  intro x hx
  rw [List.mem_append] at hx
  exact hx.elim (lim_limbs L i x) (lim_limbs H j x)
theorem trim_lim8 (L H : Int) : (trimL (lim L 4 ++ lim H 4)).length ≤ 8 := by
  have := trimL_length (lim L 4 ++ lim H 4)
  rw [List.length_append, lim_len, lim_len] at this
  omega
theorem own_row2 {α : Type} {enc : α → List Value} {k : Nat} (hk : ∀ x, (enc x).length = k) (h0 : 0 < k) {w : World} {base n : Nat} {e : TypeId} {v : Value} {xs : List α} (h : w.ownsRow base e k v n (xs.flatMap enc)) :
    n = xs.length ∧ RowK w (fun b => v.ownBlock = some b) enc k v xs := by
  have h9 := own_row hk h0 h
  refine ⟨h9.1, ?_⟩
  obtain ⟨A, c, h1, h2, h3, h4, h5⟩ := h9.2
  refine ⟨A, c, h1, h2, h3, h4, fun i x hx => ?_⟩
  obtain ⟨b, o, r1, r2, r3⟩ := h5 i x hx
  refine ⟨b, o, r1, ?_, r3⟩
  rcases h.2 with ⟨e1, _⟩ | ⟨g, cap, cur, e1, _⟩
  · rw [h1, r1] at e1; cases e1
  · rw [e1] at h1
    injection h1 with h1 _ _
    rw [r1] at h1
    injection h1 with h1
    injection h1 with h1 _ _
    rw [e1, h1]
    rfl
theorem lv0 {l : List Int} (h : Limbs l) (hc : Canon l) : lv l = 0 ↔ l = [] := by
  constructor
  · intro e
    apply Classical.byContradiction
    intro hne
    have h1 := canon_ge h hc hne
    have h2 := pw_pos (l.length - 1)
    omega
  · intro e; subst e; rfl
theorem from_res {z H L : Int} (ng : Bool) (hz : I128 z) (hL : L = (mag z).2) (hH : H = (mag z).1) (hn : decide (wh z < 0) = ng) :
    lv (trimL (lim L 4 ++ lim H 4)) = z.natAbs ∧ (ng && decide (trimL (lim L 4 ++ lim H 4) ≠ [])) = decide (z < 0) := by
  have hU : U64 L ∧ U64 H := by
    unfold I128 at hz
    rw [hH, hL]; unfold U64 mag; dsimp only; omega
  have e1 : lv (trimL (lim L 4 ++ lim H 4)) = z.natAbs := by
    rw [trimL_lv, lv_append, lim4 hU.1, lim4 hU.2, lim_len, hL, hH]
    unfold mag
    dsimp only
    omega
  refine ⟨e1, ?_⟩
  have hlim : Limbs (lim L 4 ++ lim H 4) := by
    intro x hx
    rw [List.mem_append] at hx
    exact hx.elim (lim_limbs L 4 x) (lim_limbs H 4 x)
  have h0 := lv0 (trimL_limbs hlim) (trimL_canon _)
  rw [e1] at h0
  have hw : wh z < 0 ↔ z < 0 := by unfold wh; omega
  rw [← hn]
  by_cases hz0 : z < 0
  · have h1 : trimL (lim L 4 ++ lim H 4) ≠ [] := fun e => by have := h0.2 e; omega
    rw [decide_eq_true (hw.2 hz0), decide_eq_true h1, decide_eq_true hz0]; rfl
  · rw [decide_eq_false (fun h => hz0 (hw.1 h)), decide_eq_false hz0]; rfl
set_option maxRecDepth 4000 in
set_option maxHeartbeats 1000000 in
theorem from_calls (z : Int) (hz : I128 z) (w : World) :
    Calls Try.prog 37 #[wide z] w fun e w' => ∃ v', e = .returned v' ∧ NumAt w' (w.heap.size ≤ ·) v' z 8 ∧ Upd [] w w' := by
  have hB := HB.new w 47 [.int .i64 (wh z), .int .u64 (wl z)]
  obtain ⟨W0, hW0⟩ : ∃ W0, W0 = (w.alloc (.cells #[.int .i64 (wh z), .int .u64 (wl z)] 47)).alloc (.cells #[.bool false, .slice none 0 0] 98) := ⟨_, rfl⟩
  have hBW : HB W0 w.heap.size 47 [.int .i64 (wh z), .int .u64 (wl z)] := by rw [hW0]; exact hB.alloc _
  have hBN : HB W0 (w.heap.size + 1) 98 [.bool false, .slice none 0 0] := by rw [hW0]; exact HB.new1 w _ _ _
  have hU0 : Upd [] w W0 := by rw [hW0]; exact ((Upd.refl _ _).alloc _).alloc _
  have x0 := fun d os => rg_cell (hBW.cell (j := 0) rfl) d os
  have x1 := fun d os => rg_cell (hBW.cell (j := 1) rfl) d os
  have HBW := Lib.hid hBW
  have HBN := Lib.hid hBN
  have HU0 := Lib.hid hU0
  have HZ := Lib.hid hz
  clear hB hBW hBN hU0 hz
  go_enter Try.func37, Try.ntmps37
  go_wp2_with fail
  rw [← hW0]
  clear hW0
  refine wp_region_quiet_below (by kernel_rfl) (by kernel_rfl) ?_
  repeat (go_big_quiet_step (fail))
  refine wpQuiet_nil ?_
  rintro _ ⟨⟨dq, osq⟩, rfl⟩
  obtain ⟨W1, hW1⟩ : ∃ W1, W1 = grow (redrawn W0 dq) osq := ⟨_, rfl⟩
  have hU1 : Upd [] W0 W1 := by rw [hW1]; exact rg_upd _ _ _
  have HU1 := Lib.hid (HU0.out.then hU1)
  have HBN1 := Lib.hid (HBN.out.upd hU1 (by simp))
  have y0 := (HBW.out.upd hU1 (by simp)).cell (j := 0) rfl
  have y1 := (HBW.out.upd hU1 (by simp)).cell (j := 1) rfl
  rw [← hW1]
  clear hW1 hU1 x0 x1
  obtain ⟨H, hH⟩ : ∃ H, H = (mag z).1 := ⟨_, rfl⟩
  obtain ⟨L, hL⟩ : ∃ L, L = (mag z).2 := ⟨_, rfl⟩
  obtain ⟨ng, hng⟩ : ∃ ng, ng = decide (wh z < 0) := ⟨_, rfl⟩
  have hwlU := wl_u z
  have hwhU : U64 (IntKind.u64.wrap (wh z)) := by simp [IntKind.wrap, IntKind.bits, IntKind.signed, U64]; omega
  have hx1 := xor_max' hwlU
  have hx2 := xor_max' hwhU
  have hU1L : U64 L ∧ U64 H := by
    have := HZ.out
    unfold I128 at this
    rw [hH, hL]; unfold U64 mag; dsimp only; omega
  have HL := Lib.hid hL
  have HH := Lib.hid hH
  have HUL := Lib.hid hU1L
  have HNG := Lib.hid hng
  have key : (wh z < 0 ∧ IntKind.u64.wrap (bits BinOp.xor IntKind.u64 (if IntKind.u64.signed = true then -1 else IntKind.u64.max) (wl z) + 1) = L ∧ (L = 0 → IntKind.u64.wrap (bits BinOp.xor IntKind.u64 (if IntKind.u64.signed = true then -1 else IntKind.u64.max) (IntKind.u64.wrap (wh z)) + 1) = H) ∧ (L ≠ 0 → bits BinOp.xor IntKind.u64 (if IntKind.u64.signed = true then -1 else IntKind.u64.max) (IntKind.u64.wrap (wh z)) = H)) ∨ (¬ wh z < 0 ∧ wl z = L ∧ IntKind.u64.wrap (wh z) = H) := by
    rw [hx1, hx2, hL, hH]
    have hz := HZ.out
    unfold I128 at hz
    simp only [IntKind.wrap, IntKind.bits, IntKind.signed, mag, wl, wh]
    simp
    omega
  have KEY := Lib.hid key
  clear hL hH hng hwlU hwhU hx1 hx2 hU1L key
  by_cases h : wh z < 0
  · have d : decide (wh z < 0) = true := decide_eq_true h
    have hngv : ng = true := HNG.out.trans d
    obtain ⟨e1, e2, e3⟩ : IntKind.u64.wrap (bits BinOp.xor IntKind.u64 (if IntKind.u64.signed = true then -1 else IntKind.u64.max) (wl z) + 1) = L ∧ (L = 0 → IntKind.u64.wrap (bits BinOp.xor IntKind.u64 (if IntKind.u64.signed = true then -1 else IntKind.u64.max) (IntKind.u64.wrap (wh z)) + 1) = H) ∧ (L ≠ 0 → bits BinOp.xor IntKind.u64 (if IntKind.u64.signed = true then -1 else IntKind.u64.max) (IntKind.u64.wrap (wh z)) = H) := by
      rcases KEY.out with k | k
      · exact k.2
      · exact absurd h k.1
    have E1 := Lib.hid e1
    by_cases hL : L = 0
    · have hz0 : (IntKind.u64.wrap (bits BinOp.xor IntKind.u64 (if IntKind.u64.signed = true then -1 else IntKind.u64.max) (wl z) + 1) == 0) = true := by rw [e1, hL]; rfl
      have e4 := e2 hL
      clear e2 e3 h hL
      go_wp2_with fail
      clear e1 e4 hz0 d
      go_loopw [3, 7] (fun v i wr => ∃ k : Nat, k ≤ 4 ∧ i = .int .i64 (k : Int) ∧ wr.ownsRow w.heap.size 118 1 v k (cs (lim L k)) ∧ Upd [] w wr ∧ HB wr (w.heap.size + 1) 98 [.bool false, .slice none 0 0]) (fun _ i _ => 4 - (intOf i).toNat)
      case atStart => exact ⟨0, by omega, rfl, ⟨rfl, .inl ⟨rfl, rfl⟩⟩, HU1.out, HBN1.out⟩
      case round =>
        obtain ⟨k, hk, rfl, hO, hU, hBN⟩ := hrel
        have HO := Lib.hid hO
        have HUR := Lib.hid hU
        have HBNR := Lib.hid hBN
        obtain ⟨A, c, rfl, _, _, _⟩ := own_shape hO
        clear hO hU hBN
        by_cases hlt : k < 4
        · have hkI : (k : Int) < 4 := by omega
          have hand := lim_and HUL.out.1 k
          have hUS := HUR.out.size
          have HN := Lib.hid (HB.new wr 118 [.int .u32 (L / 65536 ^ k % 65536)])
          go_wp2_with (at_builtin; go_must (refine wp_append1 w.heap.size 96 118 _ 1 4 (.slice A k c) k (cs (lim L k)) [.int .u32 (L / 65536 ^ k % 65536)] _ rfl rfl (by kernel_rfl) infoU rfl (by decide) (by decide) rfl rfl rfl (uc_one _) (own_upd HO.out ((Upd.refl [] wr).alloc _) (by simp)) HN.out (by simp; omega) (by omega) ?_))
          intro v1 w1 hown1 hU1 hat1
          have HO1 := Lib.hid hown1
          have HU1a := Lib.hid (app_upd HUR.out ((Upd.refl [] wr).alloc _) hU1 (own_base HO.out))
          have HB1 := Lib.hid ((HBNR.out.alloc (.cells #[.int .u32 (L / 65536 ^ k % 65536)] 118)).upd hU1 (own_notin HO.out HBNR.out (by decide)))
          clear hown1 hU1 hat1 hand
          go_wp2
          exact ⟨⟨k + 1, by omega, rfl, by rw [lim, cs_app]; exact HO1.out, HU1a.out, HB1.out⟩, by simp [intOf]; omega⟩
        · obtain rfl : k = 4 := by omega
          have h4 : ((4 : Nat) : Int) = 4 := rfl
          rw [h4]
          go_wp2_with fail
          generalize wr = wo at *
          go_loopw [3, 8] (fun v i wq => ∃ j : Nat, j ≤ 4 ∧ i = .int .i64 (j : Int) ∧ wq.ownsRow w.heap.size 118 1 v (4 + j) (cs (lim L 4 ++ lim H j)) ∧ Upd [] w wq ∧ HB wq (w.heap.size + 1) 98 [.bool false, .slice none 0 0]) (fun _ i _ => 4 - (intOf i).toNat)
          case atStart => exact ⟨0, by omega, rfl, by rw [lim, List.append_nil]; exact HO.out, HUR.out, HBNR.out⟩
          case round =>
            obtain ⟨k, hk, rfl, hO, hU, hBN⟩ := hrel
            have HO := Lib.hid hO
            have HUR := Lib.hid hU
            have HBNR := Lib.hid hBN
            obtain ⟨A, c, rfl, _, _, _⟩ := own_shape hO
            by_cases hlt : k < 4
            · have hkI : (k : Int) < 4 := by omega
              have hand := lim_and HUL.out.2 k
              have hUS := HUR.out.size
              have HN := Lib.hid (HB.new wr 118 [.int .u32 (H / 65536 ^ k % 65536)])
              clear hO hU hBN
              go_wp2_with (at_builtin; go_must (refine wp_append1 w.heap.size 96 118 _ 1 4 (.slice A (4 + k) c) (4 + k) (cs (lim L 4 ++ lim H k)) [.int .u32 (H / 65536 ^ k % 65536)] _ rfl rfl (by kernel_rfl) infoU rfl (by decide) (by decide) rfl rfl rfl (uc_one _) (own_upd HO.out ((Upd.refl [] wr).alloc _) (by simp)) HN.out (by simp; omega) (by omega) ?_))
              intro v1 w1 hown1 hU1 hat1
              have HO1 := Lib.hid hown1
              have HU1a := Lib.hid (app_upd HUR.out ((Upd.refl [] wr).alloc _) hU1 (own_base HO.out))
              have HB1 := Lib.hid ((HBNR.out.alloc (.cells #[.int .u32 (H / 65536 ^ k % 65536)] 118)).upd hU1 (own_notin HO.out HBNR.out (by decide)))
              clear hown1 hU1 hat1 hand
              go_wp2
              exact ⟨⟨k + 1, by omega, rfl, by rw [show lim H (k + 1) = lim H k ++ [H / 65536 ^ k % 65536] from rfl, ← List.append_assoc, cs_app (lim L 4 ++ lim H k)]; exact HO1.out, HU1a.out, HB1.out⟩, by simp [intOf]; omega⟩
            · obtain rfl : k = 4 := by omega
              rw [← cs_flat] at hO
              obtain ⟨hlen, hrow⟩ := own_row2 uc_len (by decide) hO
              have HM2 := Lib.hid (make2_calls _ true _ _ wr hrow)
              obtain ⟨T, hT⟩ : ∃ T, T = trimL (lim L 4 ++ lim H 4) := ⟨_, rfl⟩
              obtain ⟨bb, hbb⟩ : ∃ bb, bb = (true && decide (T ≠ [])) := ⟨_, rfl⟩
              have HRO := Lib.hid (from_res true HZ.out HL.out HH.out (by rw [← HNG.out, hngv]))
              rw [← hT, ← hbb] at HM2 HRO
              have HT := Lib.hid hT
              have HROW := Lib.hid hrow
              have HNE := Lib.hid (own_notin hO hBN (by decide))
              have HBASE := Lib.hid (own_base hO)
              clear hO hU hBN hlen hrow hT hbb
              go_wp2_with fail
              refine HM2.out.mono ?_
              rintro e w2 ⟨v', rfl, hsub, hU2⟩
              have hres := hsub _ _ (HROW.out.upd0 hU2)
              have hb2 := HBNR.out.upd hU2 (by simp)
              have f0 := hb2.free 0
              have f1 := hb2.free 1
              have y0' := hb2.cell (j := 0) rfl
              have y1' := hb2.cell (j := 1) rfl
              have HB2 := Lib.hid hb2
              have HU2 := Lib.hid (HUR.out.then hU2)
              have HR3 := Lib.hid (fun (x y : Value) => ((hres.upd (S := [w.heap.size + 1]) (((Upd.refl _ w2).setCell (p := ⟨w.heap.size + 1, 0, none⟩) (.inl (by simp)) x).setCell (p := ⟨w.heap.size + 1, 1, none⟩) (.inl (by simp)) y) (fun b hb hf => by simp at hb; subst hb; exact HNE.out (by rw [hf]; simp))).mono (G := (w.heap.size ≤ ·)) (fun b hb => HBASE.out b hb)))
              obtain ⟨A', c', rfl, _, _, _⟩ := hres.shape
              clear hsub hU2 hb2 hres
              go_wp2
              have hy := (HB2.out.set 0 (.bool bb)).set 1 (.slice A' T.length c')
              have k0 := hy.cell (j := 0) rfl
              have k1 := hy.cell (j := 1) rfl
              refine bodyPost_ret (v := .agg #[.bool bb, .slice A' T.length c']) ?_ rfl ⟨_, rfl, ⟨_, _, by rw [HRO.out.2], HR3.out _ _, ?_, ?_, HRO.out.1, ?_⟩, (HU2.out.setCell (.inr (by simp)) _).setCell (.inr (by simp)) _⟩
              · simp [results, Try.f37, go_sem, k0, k1]
              · rw [HT.out]; exact trimL_limbs (lim_append _ _ _ _)
              · rw [HT.out]; exact trimL_canon _
              · rw [HT.out]; exact trim_lim8 _ _
    · have hz0 : (IntKind.u64.wrap (bits BinOp.xor IntKind.u64 (if IntKind.u64.signed = true then -1 else IntKind.u64.max) (wl z) + 1) == 0) = false := by rw [e1]; simpa using hL
      have e4 := e3 hL
      clear e2 e3 h hL
      go_wp2_with fail
      clear e1 e4 hz0 d
      go_loopw [3, 7] (fun v i wr => ∃ k : Nat, k ≤ 4 ∧ i = .int .i64 (k : Int) ∧ wr.ownsRow w.heap.size 118 1 v k (cs (lim L k)) ∧ Upd [] w wr ∧ HB wr (w.heap.size + 1) 98 [.bool false, .slice none 0 0]) (fun _ i _ => 4 - (intOf i).toNat)
      case atStart => exact ⟨0, by omega, rfl, ⟨rfl, .inl ⟨rfl, rfl⟩⟩, HU1.out, HBN1.out⟩
      case round =>
        obtain ⟨k, hk, rfl, hO, hU, hBN⟩ := hrel
        have HO := Lib.hid hO
        have HUR := Lib.hid hU
        have HBNR := Lib.hid hBN
        obtain ⟨A, c, rfl, _, _, _⟩ := own_shape hO
        clear hO hU hBN
        by_cases hlt : k < 4
        · have hkI : (k : Int) < 4 := by omega
          have hand := lim_and HUL.out.1 k
          have hUS := HUR.out.size
          have HN := Lib.hid (HB.new wr 118 [.int .u32 (L / 65536 ^ k % 65536)])
          go_wp2_with (at_builtin; go_must (refine wp_append1 w.heap.size 96 118 _ 1 4 (.slice A k c) k (cs (lim L k)) [.int .u32 (L / 65536 ^ k % 65536)] _ rfl rfl (by kernel_rfl) infoU rfl (by decide) (by decide) rfl rfl rfl (uc_one _) (own_upd HO.out ((Upd.refl [] wr).alloc _) (by simp)) HN.out (by simp; omega) (by omega) ?_))
          intro v1 w1 hown1 hU1 hat1
          have HO1 := Lib.hid hown1
          have HU1a := Lib.hid (app_upd HUR.out ((Upd.refl [] wr).alloc _) hU1 (own_base HO.out))
          have HB1 := Lib.hid ((HBNR.out.alloc (.cells #[.int .u32 (L / 65536 ^ k % 65536)] 118)).upd hU1 (own_notin HO.out HBNR.out (by decide)))
          clear hown1 hU1 hat1 hand
          go_wp2
          exact ⟨⟨k + 1, by omega, rfl, by rw [lim, cs_app]; exact HO1.out, HU1a.out, HB1.out⟩, by simp [intOf]; omega⟩
        · obtain rfl : k = 4 := by omega
          have h4 : ((4 : Nat) : Int) = 4 := rfl
          rw [h4]
          go_wp2_with fail
          generalize wr = wo at *
          go_loopw [3, 8] (fun v i wq => ∃ j : Nat, j ≤ 4 ∧ i = .int .i64 (j : Int) ∧ wq.ownsRow w.heap.size 118 1 v (4 + j) (cs (lim L 4 ++ lim H j)) ∧ Upd [] w wq ∧ HB wq (w.heap.size + 1) 98 [.bool false, .slice none 0 0]) (fun _ i _ => 4 - (intOf i).toNat)
          case atStart => exact ⟨0, by omega, rfl, by rw [lim, List.append_nil]; exact HO.out, HUR.out, HBNR.out⟩
          case round =>
            obtain ⟨k, hk, rfl, hO, hU, hBN⟩ := hrel
            have HO := Lib.hid hO
            have HUR := Lib.hid hU
            have HBNR := Lib.hid hBN
            obtain ⟨A, c, rfl, _, _, _⟩ := own_shape hO
            by_cases hlt : k < 4
            · have hkI : (k : Int) < 4 := by omega
              have hand := lim_and HUL.out.2 k
              have hUS := HUR.out.size
              have HN := Lib.hid (HB.new wr 118 [.int .u32 (H / 65536 ^ k % 65536)])
              clear hO hU hBN
              go_wp2_with (at_builtin; go_must (refine wp_append1 w.heap.size 96 118 _ 1 4 (.slice A (4 + k) c) (4 + k) (cs (lim L 4 ++ lim H k)) [.int .u32 (H / 65536 ^ k % 65536)] _ rfl rfl (by kernel_rfl) infoU rfl (by decide) (by decide) rfl rfl rfl (uc_one _) (own_upd HO.out ((Upd.refl [] wr).alloc _) (by simp)) HN.out (by simp; omega) (by omega) ?_))
              intro v1 w1 hown1 hU1 hat1
              have HO1 := Lib.hid hown1
              have HU1a := Lib.hid (app_upd HUR.out ((Upd.refl [] wr).alloc _) hU1 (own_base HO.out))
              have HB1 := Lib.hid ((HBNR.out.alloc (.cells #[.int .u32 (H / 65536 ^ k % 65536)] 118)).upd hU1 (own_notin HO.out HBNR.out (by decide)))
              clear hown1 hU1 hat1 hand
              go_wp2
              exact ⟨⟨k + 1, by omega, rfl, by rw [show lim H (k + 1) = lim H k ++ [H / 65536 ^ k % 65536] from rfl, ← List.append_assoc, cs_app (lim L 4 ++ lim H k)]; exact HO1.out, HU1a.out, HB1.out⟩, by simp [intOf]; omega⟩
            · obtain rfl : k = 4 := by omega
              rw [← cs_flat] at hO
              obtain ⟨hlen, hrow⟩ := own_row2 uc_len (by decide) hO
              have HM2 := Lib.hid (make2_calls _ true _ _ wr hrow)
              obtain ⟨T, hT⟩ : ∃ T, T = trimL (lim L 4 ++ lim H 4) := ⟨_, rfl⟩
              obtain ⟨bb, hbb⟩ : ∃ bb, bb = (true && decide (T ≠ [])) := ⟨_, rfl⟩
              have HRO := Lib.hid (from_res true HZ.out HL.out HH.out (by rw [← HNG.out, hngv]))
              rw [← hT, ← hbb] at HM2 HRO
              have HT := Lib.hid hT
              have HROW := Lib.hid hrow
              have HNE := Lib.hid (own_notin hO hBN (by decide))
              have HBASE := Lib.hid (own_base hO)
              clear hO hU hBN hlen hrow hT hbb
              go_wp2_with fail
              refine HM2.out.mono ?_
              rintro e w2 ⟨v', rfl, hsub, hU2⟩
              have hres := hsub _ _ (HROW.out.upd0 hU2)
              have hb2 := HBNR.out.upd hU2 (by simp)
              have f0 := hb2.free 0
              have f1 := hb2.free 1
              have y0' := hb2.cell (j := 0) rfl
              have y1' := hb2.cell (j := 1) rfl
              have HB2 := Lib.hid hb2
              have HU2 := Lib.hid (HUR.out.then hU2)
              have HR3 := Lib.hid (fun (x y : Value) => ((hres.upd (S := [w.heap.size + 1]) (((Upd.refl _ w2).setCell (p := ⟨w.heap.size + 1, 0, none⟩) (.inl (by simp)) x).setCell (p := ⟨w.heap.size + 1, 1, none⟩) (.inl (by simp)) y) (fun b hb hf => by simp at hb; subst hb; exact HNE.out (by rw [hf]; simp))).mono (G := (w.heap.size ≤ ·)) (fun b hb => HBASE.out b hb)))
              obtain ⟨A', c', rfl, _, _, _⟩ := hres.shape
              clear hsub hU2 hb2 hres
              go_wp2
              have hy := (HB2.out.set 0 (.bool bb)).set 1 (.slice A' T.length c')
              have k0 := hy.cell (j := 0) rfl
              have k1 := hy.cell (j := 1) rfl
              refine bodyPost_ret (v := .agg #[.bool bb, .slice A' T.length c']) ?_ rfl ⟨_, rfl, ⟨_, _, by rw [HRO.out.2], HR3.out _ _, ?_, ?_, HRO.out.1, ?_⟩, (HU2.out.setCell (.inr (by simp)) _).setCell (.inr (by simp)) _⟩
              · simp [results, Try.f37, go_sem, k0, k1]
              · rw [HT.out]; exact trimL_limbs (lim_append _ _ _ _)
              · rw [HT.out]; exact trimL_canon _
              · rw [HT.out]; exact trim_lim8 _ _
  · have d : decide (wh z < 0) = false := decide_eq_false h
    have hngv : ng = false := HNG.out.trans d
    obtain ⟨e1, e2⟩ : wl z = L ∧ IntKind.u64.wrap (wh z) = H := by
      rcases KEY.out with k | k
      · exact absurd k.1 h
      · exact k.2
    clear h
    go_wp2_with fail
    clear e1 e2 d
    go_loopw [3, 7] (fun v i wr => ∃ k : Nat, k ≤ 4 ∧ i = .int .i64 (k : Int) ∧ wr.ownsRow w.heap.size 118 1 v k (cs (lim L k)) ∧ Upd [] w wr ∧ HB wr (w.heap.size + 1) 98 [.bool false, .slice none 0 0]) (fun _ i _ => 4 - (intOf i).toNat)
    case atStart => exact ⟨0, by omega, rfl, ⟨rfl, .inl ⟨rfl, rfl⟩⟩, HU1.out, HBN1.out⟩
    case round =>
      obtain ⟨k, hk, rfl, hO, hU, hBN⟩ := hrel
      have HO := Lib.hid hO
      have HUR := Lib.hid hU
      have HBNR := Lib.hid hBN
      obtain ⟨A, c, rfl, _, _, _⟩ := own_shape hO
      clear hO hU hBN
      by_cases hlt : k < 4
      · have hkI : (k : Int) < 4 := by omega
        have hand := lim_and HUL.out.1 k
        have hUS := HUR.out.size
        have HN := Lib.hid (HB.new wr 118 [.int .u32 (L / 65536 ^ k % 65536)])
        go_wp2_with (at_builtin; go_must (refine wp_append1 w.heap.size 96 118 _ 1 4 (.slice A k c) k (cs (lim L k)) [.int .u32 (L / 65536 ^ k % 65536)] _ rfl rfl (by kernel_rfl) infoU rfl (by decide) (by decide) rfl rfl rfl (uc_one _) (own_upd HO.out ((Upd.refl [] wr).alloc _) (by simp)) HN.out (by simp; omega) (by omega) ?_))
        intro v1 w1 hown1 hU1 hat1
        have HO1 := Lib.hid hown1
        have HU1a := Lib.hid (app_upd HUR.out ((Upd.refl [] wr).alloc _) hU1 (own_base HO.out))
        have HB1 := Lib.hid ((HBNR.out.alloc (.cells #[.int .u32 (L / 65536 ^ k % 65536)] 118)).upd hU1 (own_notin HO.out HBNR.out (by decide)))
        clear hown1 hU1 hat1 hand
        go_wp2
        exact ⟨⟨k + 1, by omega, rfl, by rw [lim, cs_app]; exact HO1.out, HU1a.out, HB1.out⟩, by simp [intOf]; omega⟩
      · obtain rfl : k = 4 := by omega
        have h4 : ((4 : Nat) : Int) = 4 := rfl
        rw [h4]
        go_wp2_with fail
        generalize wr = wo at *
        go_loopw [3, 8] (fun v i wq => ∃ j : Nat, j ≤ 4 ∧ i = .int .i64 (j : Int) ∧ wq.ownsRow w.heap.size 118 1 v (4 + j) (cs (lim L 4 ++ lim H j)) ∧ Upd [] w wq ∧ HB wq (w.heap.size + 1) 98 [.bool false, .slice none 0 0]) (fun _ i _ => 4 - (intOf i).toNat)
        case atStart => exact ⟨0, by omega, rfl, by rw [lim, List.append_nil]; exact HO.out, HUR.out, HBNR.out⟩
        case round =>
          obtain ⟨k, hk, rfl, hO, hU, hBN⟩ := hrel
          have HO := Lib.hid hO
          have HUR := Lib.hid hU
          have HBNR := Lib.hid hBN
          obtain ⟨A, c, rfl, _, _, _⟩ := own_shape hO
          by_cases hlt : k < 4
          · have hkI : (k : Int) < 4 := by omega
            have hand := lim_and HUL.out.2 k
            have hUS := HUR.out.size
            have HN := Lib.hid (HB.new wr 118 [.int .u32 (H / 65536 ^ k % 65536)])
            clear hO hU hBN
            go_wp2_with (at_builtin; go_must (refine wp_append1 w.heap.size 96 118 _ 1 4 (.slice A (4 + k) c) (4 + k) (cs (lim L 4 ++ lim H k)) [.int .u32 (H / 65536 ^ k % 65536)] _ rfl rfl (by kernel_rfl) infoU rfl (by decide) (by decide) rfl rfl rfl (uc_one _) (own_upd HO.out ((Upd.refl [] wr).alloc _) (by simp)) HN.out (by simp; omega) (by omega) ?_))
            intro v1 w1 hown1 hU1 hat1
            have HO1 := Lib.hid hown1
            have HU1a := Lib.hid (app_upd HUR.out ((Upd.refl [] wr).alloc _) hU1 (own_base HO.out))
            have HB1 := Lib.hid ((HBNR.out.alloc (.cells #[.int .u32 (H / 65536 ^ k % 65536)] 118)).upd hU1 (own_notin HO.out HBNR.out (by decide)))
            clear hown1 hU1 hat1 hand
            go_wp2
            exact ⟨⟨k + 1, by omega, rfl, by rw [show lim H (k + 1) = lim H k ++ [H / 65536 ^ k % 65536] from rfl, ← List.append_assoc, cs_app (lim L 4 ++ lim H k)]; exact HO1.out, HU1a.out, HB1.out⟩, by simp [intOf]; omega⟩
          · obtain rfl : k = 4 := by omega
            rw [← cs_flat] at hO
            obtain ⟨hlen, hrow⟩ := own_row2 uc_len (by decide) hO
            have HM2 := Lib.hid (make2_calls _ false _ _ wr hrow)
            obtain ⟨T, hT⟩ : ∃ T, T = trimL (lim L 4 ++ lim H 4) := ⟨_, rfl⟩
            obtain ⟨bb, hbb⟩ : ∃ bb, bb = (false && decide (T ≠ [])) := ⟨_, rfl⟩
            have HRO := Lib.hid (from_res false HZ.out HL.out HH.out (by rw [← HNG.out, hngv]))
            rw [← hT, ← hbb] at HM2 HRO
            have HT := Lib.hid hT
            have HROW := Lib.hid hrow
            have HNE := Lib.hid (own_notin hO hBN (by decide))
            have HBASE := Lib.hid (own_base hO)
            clear hO hU hBN hlen hrow hT hbb
            go_wp2_with fail
            refine HM2.out.mono ?_
            rintro e w2 ⟨v', rfl, hsub, hU2⟩
            have hres := hsub _ _ (HROW.out.upd0 hU2)
            have hb2 := HBNR.out.upd hU2 (by simp)
            have f0 := hb2.free 0
            have f1 := hb2.free 1
            have y0' := hb2.cell (j := 0) rfl
            have y1' := hb2.cell (j := 1) rfl
            have HB2 := Lib.hid hb2
            have HU2 := Lib.hid (HUR.out.then hU2)
            have HR3 := Lib.hid (fun (x y : Value) => ((hres.upd (S := [w.heap.size + 1]) (((Upd.refl _ w2).setCell (p := ⟨w.heap.size + 1, 0, none⟩) (.inl (by simp)) x).setCell (p := ⟨w.heap.size + 1, 1, none⟩) (.inl (by simp)) y) (fun b hb hf => by simp at hb; subst hb; exact HNE.out (by rw [hf]; simp))).mono (G := (w.heap.size ≤ ·)) (fun b hb => HBASE.out b hb)))
            obtain ⟨A', c', rfl, _, _, _⟩ := hres.shape
            clear hsub hU2 hb2 hres
            go_wp2
            have hy := (HB2.out.set 0 (.bool bb)).set 1 (.slice A' T.length c')
            have k0 := hy.cell (j := 0) rfl
            have k1 := hy.cell (j := 1) rfl
            refine bodyPost_ret (v := .agg #[.bool bb, .slice A' T.length c']) ?_ rfl ⟨_, rfl, ⟨_, _, by rw [HRO.out.2], HR3.out _ _, ?_, ?_, HRO.out.1, ?_⟩, (HU2.out.setCell (.inr (by simp)) _).setCell (.inr (by simp)) _⟩
            · simp [results, Try.f37, go_sem, k0, k1]
            · rw [HT.out]; exact trimL_limbs (lim_append _ _ _ _)
            · rw [HT.out]; exact trimL_canon _
            · rw [HT.out]; exact trim_lim8 _ _
end Go.Proofs.Ytdjpcinibgbglaa
namespace Go.Proofs.Ytdjpcinibgbglaa
open Go.RowKit
/-- Each operation below n is waited for by a later one (n among them). -/
def ancB (ops : Array Oper) (n : Nat) : Bool := (List.range n).all fun i => (List.range (n + 1)).any fun j => decide (i < j) && ((ops[j]?).map fun o => o.after.any fun e => Region.binds .any e && e.on == i).getD false
theorem anc_of {ops : Array Oper} {n : Nat} (h : ancB ops n = true) {i : Nat} (hi : i < n) : ∃ j o e, i < j ∧ j ≤ n ∧ ops[j]? = some o ∧ e ∈ o.after ∧ Region.binds .any e = true ∧ e.on = i := by
  unfold ancB at h
  rw [List.all_eq_true] at h
  have h1 := h i (List.mem_range.2 hi)
  rw [List.any_eq_true] at h1
  obtain ⟨j, hj, h2⟩ := h1
  rw [List.mem_range] at hj
  simp only [Bool.and_eq_true, decide_eq_true_eq] at h2
  cases ho : ops[j]? with
  | none => rw [ho] at h2; simp at h2
  | some o =>
    rw [ho] at h2
    simp only [Option.map_some, Option.getD_some] at h2
    obtain ⟨h3, h4⟩ := h2
    rw [Array.any_eq_true] at h4
    obtain ⟨k, hk, h5⟩ := h4
    simp only [Bool.and_eq_true, beq_iff_eq] at h5
    exact ⟨j, o, o.after[k], h3, by omega, ho, Array.getElem_mem hk, h5.1, h5.2⟩
section
variable {P : Program} {ops : Array Oper} {Q : Exit → Act → World → Prop}
def ClosedD (ops : Array Oper) (D : Nat → Bool) : Prop := ∀ i o, ops[i]? = some o → D i = true → ∀ e ∈ o.after, Region.binds .any e = true → D e.on = true
theorem closed_all {n : Nat} (hanc : ancB ops n = true) {D : Nat → Bool} (hc : ClosedD ops D) (hn : ∀ o, ops[n]? = some o → ∀ e ∈ o.after, Region.binds .any e = true → D e.on = true) : ∀ i, i < n → D i = true := by
  have key : ∀ d i, n - i ≤ d → i < n → D i = true := by
    intro d
    induction d with
    | zero => intro i h1 h2; omega
    | succ d ih =>
      intro i h1 h2
      obtain ⟨j, o, e, hj, hjn, ho, he, hb, hon⟩ := anc_of hanc h2
      rw [← hon]
      by_cases hjn2 : j = n
      · subst hjn2
        exact hn o ho e he hb
      · exact hc j o ho (ih j (by omega) (by omega)) e he hb
  exact fun i hi => key (n - i) i (Nat.le_refl _) hi
theorem wpOp_via {J : Act → World → Prop} {a : Act} {w : World} {i : Nat} {o : Oper} (ho : ops[i]? = some o) (h : ∀ K : Act → World → Prop, (∀ a w, J a w → K a w) → wpList P ops (Exit.then K Q) [o] a w) : wpOp P ops Q i J a w := wpOp_of_list ho (h J fun _ _ h => h)
theorem region_rel {id : Nat} {a : Act} {w : World} (n : Nat) (hm : P.follows .mixedOrders = true) (hlow : lowB ops = true) (hsz : ops.size = n + 1) (hanc : ancB ops n = true) (I : (Nat → Bool) → Act → World → Prop) (h0 : I (fun _ => false) a w.drew)
    (hstep : ∀ D a w i o, I D a w → i < n → ops[i]? = some o → (∀ e ∈ o.after, Region.binds .any e = true → D e.on = true) → wpOp P ops Q i (I (fun j => D j || j == i)) a w)
    (hlast : ∀ D a w o, I D a w → (∀ i, i < n → D i = true) → ops[n]? = some o → wpOp P ops Q n (fun a w => Q .normal a w) a w) : (Code.region id ops true).wp P Q a w := by
  refine region_inv hm hlow (fun D a w => ClosedD ops D ∧ (D n = false → I D a w) ∧ (D n = true → Q .normal a w)) ?_ ?_ ?_
  · exact ⟨fun i o _ h => (by simp at h), fun _ => h0, fun h => (by simp at h)⟩
  · rintro D a w i o ⟨hc, h1, h2⟩ ho hD hdep
    have hc' : ClosedD ops (fun j => D j || j == i) := by
      intro k p hp hk e he hb
      simp only [Bool.or_eq_true, beq_iff_eq] at hk ⊢
      rcases hk with hk | rfl
      · exact .inl (hc k p hp hk e he hb)
      · rw [ho] at hp
        injection hp with hp
        subst hp
        exact .inl (hdep e he hb)
    by_cases hi : i = n
    · subst hi
      have hall := closed_all hanc hc (fun p hp e he hb => by rw [ho] at hp; injection hp with hp; subst hp; exact hdep e he hb)
      refine wpOp_mono (fun a' w' hq => ?_) (hlast D a w o (h1 hD) hall ho)
      exact ⟨hc', fun h => by simp at h, fun _ => hq⟩
    · have hin : i < n := by have := (Array.getElem?_eq_some_iff.1 ho).1; omega
      have hDn : D n = false := by
        cases hdn : D n with
        | false => rfl
        | true =>
          have := closed_all hanc hc (fun p hp e he hb => hc n p hp hdn e he hb) i hin
          rw [hD] at this
          cases this
      refine wpOp_mono (fun a' w' hq => ?_) (hstep D a w i o (h1 hDn) hin ho hdep)
      refine ⟨hc', fun _ => hq, fun h => ?_⟩
      simp only [Bool.or_eq_true, beq_iff_eq] at h
      rcases h with h | h
      · rw [hDn] at h; cases h
      · omega
  · rintro D a w ⟨_, _, h2⟩ hall
    exact h2 (hall n (by omega))
end
end Go.Proofs.Ytdjpcinibgbglaa
namespace Go.Proofs.Ytdjpcinibgbglaa
open Go.RowKit Go.Sort
theorem NumAt.upd {w w' : World} {F : Nat → Prop} {v : Value} {n : Int} {K : Nat} (h : NumAt w F v n K) {S : List Nat} (hU : Upd S w w') (hF : ∀ b, b ∈ S → ¬ F b) : NumAt w' F v n K := by
  obtain ⟨sl, l, e, hr, r⟩ := h
  exact ⟨sl, l, e, hr.upd hU hF, r⟩
theorem NumAt.upd0 {w w' : World} {F : Nat → Prop} {v : Value} {n : Int} {K : Nat} (h : NumAt w F v n K) (hU : Upd [] w w') : NumAt w' F v n K := h.upd hU (fun _ h => by cases h)
theorem NumAt.mono {w : World} {F G : Nat → Prop} {v : Value} {n : Int} {K J : Nat} (h : NumAt w F v n K) (hF : ∀ b, F b → G b) (hK : K ≤ J) : NumAt w G v n J := by
  obtain ⟨sl, l, e, hr, h1, h2, h3, h4⟩ := h
  exact ⟨sl, l, e, hr.mono hF, h1, h2, h3, by omega⟩
theorem cmp_neg (x y : Int) : cmpW (-x) (-y) = - cmpW x y := by
  unfold cmpW
  split <;> split <;> (try split) <;> (try split) <;> omega
set_option maxRecDepth 10000 in
set_option maxHeartbeats 1000000 in
theorem cmpN_calls (F G : Nat → Prop) (v u : Value) (m n : Int) (K J : Nat) (w : World) (hv : NumAt w F v m K) (hu : NumAt w G u n J) :
    Calls Try.prog 38 #[v, u] w fun e w' => e = .returned (.int .i64 (cmpW m n)) ∧ Upd [] w w' := by
  obtain ⟨sa, a, rfl, ra, la, ca, va, ka⟩ := hv
  obtain ⟨sb, b, rfl, rb, lb, cb, vb, kb⟩ := hu
  obtain ⟨A, c, rfl, _, _, _⟩ := ra.shape
  obtain ⟨B, d, rfl, _, _, _⟩ := rb.shape
  have HC := Lib.hid (fun W (hW : Upd [] w W) => cmpL_calls F G _ _ a b W (ra.upd0 hW) (rb.upd0 hW) la lb)
  rw [va, vb] at HC
  have b0 := (HB.new w 98 [.bool (decide (m < 0)), .slice A a.length c]).alloc (.cells #[.bool (decide (n < 0)), .slice B b.length d] 98)
  have b1 := HB.new1 w (.cells #[.bool (decide (m < 0)), .slice A a.length c] 98) 98 [.bool (decide (n < 0)), .slice B b.length d]
  have hU0 := ((Upd.refl [] w).alloc (.cells #[.bool (decide (m < 0)), .slice A a.length c] 98)).alloc (.cells #[.bool (decide (n < 0)), .slice B b.length d] 98)
  obtain ⟨p, hp⟩ : ∃ p, p = decide (m < 0) := ⟨_, rfl⟩
  obtain ⟨q, hq⟩ : ∃ q, q = decide (n < 0) := ⟨_, rfl⟩
  rw [← hp] at b0 b1 hU0 ⊢
  rw [← hq] at b0 b1 hU0 ⊢
  obtain ⟨r, hr⟩ : ∃ r, r = cmpW m n := ⟨_, rfl⟩
  obtain ⟨s, hs⟩ : ∃ s, s = cmpW (m.natAbs : Int) (n.natAbs : Int) := ⟨_, rfl⟩
  rw [← hr]
  rw [← hs] at HC
  have hsb : -1 ≤ s ∧ s ≤ 1 := by rw [hs]; unfold cmpW; split <;> (try split) <;> omega
  have hfin : r = if p = q then (if p = true then -s else s) else (if p = true then -1 else 1) := by
    rw [hr, hs, hp, hq]
    by_cases h1 : m < 0
    · by_cases h2 : n < 0
      · have e1 : (m.natAbs : Int) = -m := by omega
        have e2 : (n.natAbs : Int) = -n := by omega
        rw [decide_eq_true h1, decide_eq_true h2, if_pos rfl, if_pos rfl, e1, e2, cmp_neg, Int.neg_neg]
      · rw [decide_eq_true h1, decide_eq_false h2, if_neg (by decide), if_pos rfl]
        unfold cmpW; rw [if_pos (by omega)]
    · by_cases h2 : n < 0
      · rw [decide_eq_false h1, decide_eq_true h2, if_neg (by decide), if_neg (by decide)]
        unfold cmpW; rw [if_neg (by omega), if_neg (by omega)]
      · have e1 : (m.natAbs : Int) = m := by omega
        have e2 : (n.natAbs : Int) = n := by omega
        rw [decide_eq_false h1, decide_eq_false h2, if_pos rfl, if_neg (by decide), e1, e2]
  have y0 := b0.cell (j := 0) rfl
  have y1 := b0.cell (j := 1) rfl
  have z0 := b1.cell (j := 0) rfl
  have z1 := b1.cell (j := 1) rfl
  have HU0 := Lib.hid hU0
  have hneg : wrap64 (-s) = -s := w64 (by unfold I64; omega)
  have hneg2 : IntKind.i64.wrap (-s) = -s := wrapI' (by unfold I64; omega)
  clear hU0 hr hs hp hq b0 b1 ra rb la lb ca cb va vb ka kb hsb
  cases p <;> cases q
  · obtain rfl : r = s := by simpa using hfin
    clear hfin
    go_enter Try.func38, Try.ntmps38
    go_wp2_with fail
    refine (HC.out _ HU0.out).mono ?_
    rintro e w2 ⟨rfl, hU2⟩
    have y0' := hU2.cell y0 (by simp)
    go_wp2
    go_ret
    exact ⟨rfl, HU0.out.then hU2⟩
  · obtain rfl : r = 1 := by simpa using hfin
    clear hfin
    go_enter Try.func38, Try.ntmps38
    go_wp2
    go_ret
    exact ⟨rfl, HU0.out⟩
  · obtain rfl : r = -1 := by simpa using hfin
    clear hfin
    go_enter Try.func38, Try.ntmps38
    go_wp2
    go_ret
    exact ⟨rfl, HU0.out⟩
  · obtain rfl : r = -s := by simpa using hfin
    clear hfin
    go_enter Try.func38, Try.ntmps38
    go_wp2_with fail
    refine (HC.out _ HU0.out).mono ?_
    rintro e w2 ⟨rfl, hU2⟩
    have y0' := hU2.cell y0 (by simp)
    go_wp2
    go_ret
    exact ⟨rfl, HU0.out.then hU2⟩
set_option maxRecDepth 10000 in
set_option maxHeartbeats 1000000 in
theorem int_calls (n : Int) (hn : I64 n) (w : World) :
    Calls Try.prog 65 #[.int .i64 n] w fun e w' => ∃ v', e = .returned v' ∧ NumAt w' (w.heap.size ≤ ·) v' n 8 ∧ Upd [] w w' := by
  have HO := Lib.hid (fun W => rof_calls n hn W)
  have HF := Lib.hid (fun W => from_calls n (by unfold I64 at hn; unfold I128; omega) W)
  have hB := HB.new w 98 [.bool false, .slice none 0 0]
  have HB0 := Lib.hid hB
  have HU0 := Lib.hid ((Upd.refl [] w).alloc (.cells #[.bool false, .slice none 0 0] 98))
  have hlt := hB.lt
  clear hB
  go_enter Try.func65, Try.ntmps65
  go_wp2_with fail
  refine (HO.out _).mono ?_
  rintro e w1 ⟨rfl, hU1⟩
  go_wp2_with fail
  refine (HF.out _).mono ?_
  rintro e w2 ⟨v', rfl, hN, hU2⟩
  have hU12 := hU1.then hU2
  have hb := HB0.out.upd hU12 (by simp)
  have f0 := hb.free 0
  have f1 := hb.free 1
  have y0 := hb.cell (j := 0) rfl
  have y1 := hb.cell (j := 1) rfl
  have HBX := Lib.hid hb
  have HU2 := Lib.hid (HU0.out.then hU12)
  have hlt1 : w.heap.size < w1.heap.size := Nat.lt_of_lt_of_le hlt hU1.size
  obtain ⟨sl, l, rfl, hr, h1, h2, h3, h4⟩ := hN
  have HR3 := Lib.hid (fun (x y : Value) => (hr.upd (S := [w.heap.size]) (((Upd.refl _ w2).setCell (p := ⟨w.heap.size, 0, none⟩) (.inl (by simp)) x).setCell (p := ⟨w.heap.size, 1, none⟩) (.inl (by simp)) y) (fun b hb hf => by simp at hb; subst hb; omega)).mono (G := (w.heap.size ≤ ·)) (fun b hb => by omega))
  have HL := Lib.hid (And.intro h1 (And.intro h2 (And.intro h3 h4)))
  obtain ⟨A, c, rfl, _, _, _⟩ := hr.shape
  obtain ⟨p, hp⟩ : ∃ p, p = decide (n < 0) := ⟨_, rfl⟩
  rw [← hp]
  have HP := Lib.hid hp
  clear hU1 hU2 hU12 hb hr h1 h2 h3 h4 hp hlt hlt1
  go_wp2
  have hy := (HBX.out.set 0 (.bool p)).set 1 (.slice A l.length c)
  have k0 := hy.cell (j := 0) rfl
  have k1 := hy.cell (j := 1) rfl
  refine bodyPost_ret (v := .agg #[.bool p, .slice A l.length c]) ?_ rfl ⟨_, rfl, ⟨_, _, by rw [HP.out], HR3.out _ _, HL.out⟩, (HU2.out.setCell (.inr (by simp)) _).setCell (.inr (by simp)) _⟩
  simp [results, Try.f65, go_sem, k0, k1]
end Go.Proofs.Ytdjpcinibgbglaa
namespace Go.Proofs.Ytdjpcinibgbglaa
open Go.RowKit Go.Sort
def MRes (W : World) (F : Nat → Prop) (v : Value) (z : Int) (K : Nat) : Prop := ∃ l, RowK W F uc 1 v l ∧ Limbs l ∧ Canon l ∧ lv l = z ∧ l.length ≤ K
theorem MRes.upd0 {w w' : World} {F : Nat → Prop} {v : Value} {z : Int} {K : Nat} (h : MRes w F v z K) (hU : Upd [] w w') : MRes w' F v z K := by
  obtain ⟨l, hr, r⟩ := h
  exact ⟨l, hr.upd0 hU, r⟩
theorem lv0' {l : List Int} (h : Limbs l) (hc : Canon l) : decide (l ≠ []) = decide (lv l ≠ 0) := by
  have := lv0 h hc
  by_cases e : l = []
  · have := this.2 e; rw [decide_eq_false (by simpa using e), decide_eq_false (by simpa using this)]
  · have h2 : lv l ≠ 0 := fun k => e (this.1 k)
    rw [decide_eq_true e, decide_eq_true h2]
theorem mul_sign (m n : Int) : ((decide (m < 0) != decide (n < 0)) && decide (((m.natAbs : Int) * (n.natAbs : Int)) ≠ 0)) = decide (m * n < 0) := by
  have hx : (m.natAbs : Int) * (n.natAbs : Int) = ((m * n).natAbs : Int) := by rw [Int.natAbs_mul, Int.natCast_mul]
  rw [hx]
  rcases Int.lt_trichotomy m 0 with h1 | h1 | h1 <;> rcases Int.lt_trichotomy n 0 with h2 | h2 | h2
  · have := Int.mul_pos_of_neg_of_neg h1 h2
    rw [decide_eq_true h1, decide_eq_true h2, decide_eq_false (show ¬ m * n < 0 by omega)]; rfl
  · subst h2; simp
  · have := Int.mul_neg_of_neg_of_pos h1 h2
    rw [decide_eq_true h1, decide_eq_false (show ¬ n < 0 by omega), decide_eq_true this, decide_eq_true (show ((m * n).natAbs : Int) ≠ 0 by omega)]; rfl
  · subst h1; simp
  · subst h1; simp
  · subst h1; simp
  · have := Int.mul_neg_of_pos_of_neg h1 h2
    rw [decide_eq_false (show ¬ m < 0 by omega), decide_eq_true h2, decide_eq_true this, decide_eq_true (show ((m * n).natAbs : Int) ≠ 0 by omega)]; rfl
  · subst h2; simp
  · have := Int.mul_pos h1 h2
    rw [decide_eq_false (show ¬ m < 0 by omega), decide_eq_false (show ¬ n < 0 by omega), decide_eq_false (show ¬ m * n < 0 by omega)]; rfl
set_option maxRecDepth 10000 in
set_option maxHeartbeats 2000000 in
theorem mulN_calls (F G : Nat → Prop) (v u : Value) (m n : Int) (K J : Nat) (w : World) (hv : NumAt w F v m K) (hu : NumAt w G u n J) (hKJ : K + J ≤ 1000000) :
    Calls Try.prog 64 #[v, u] w fun e w' => ∃ v', e = .returned v' ∧ NumAt w' (w.heap.size ≤ ·) v' (m * n) (K + J) ∧ Upd [] w w' := by
  obtain ⟨sa, a, rfl, ra, la, ca, va, ka⟩ := hv
  obtain ⟨sb, b, rfl, rb, lb, cb, vb, kb⟩ := hu
  obtain ⟨A, c, rfl, _, _, _⟩ := ra.shape
  obtain ⟨B, d, rfl, _, _, _⟩ := rb.shape
  have HC := Lib.hid (fun W (hW : Upd [] w W) => mulL_calls F G _ _ a b W (ra.upd0 hW) (rb.upd0 hW) la lb (by omega))
  rw [va, vb] at HC
  obtain ⟨W0, hW0⟩ : ∃ W0, W0 = ((w.alloc (.cells #[.bool (decide (m < 0)), .slice A a.length c] 98)).alloc (.cells #[.bool (decide (n < 0)), .slice B b.length d] 98)).alloc (.cells #[.bool false, .slice none 0 0] 98) := ⟨_, rfl⟩
  have b0 : HB W0 w.heap.size 98 [.bool (decide (m < 0)), .slice A a.length c] := by rw [hW0]; exact ((HB.new w _ _).alloc _).alloc _
  have b1 : HB W0 (w.heap.size + 1) 98 [.bool (decide (n < 0)), .slice B b.length d] := by rw [hW0]; exact (HB.new1 w _ _ _).alloc _
  have b2 : HB W0 (w.heap.size + 2) 98 [.bool false, .slice none 0 0] := by
    rw [hW0]
    have h := HB.new ((w.alloc (.cells #[.bool (decide (m < 0)), .slice A a.length c] 98)).alloc (.cells #[.bool (decide (n < 0)), .slice B b.length d] 98)) 98 [.bool false, .slice none 0 0]
    rwa [show ((w.alloc (.cells #[.bool (decide (m < 0)), .slice A a.length c] 98)).alloc (.cells #[.bool (decide (n < 0)), .slice B b.length d] 98)).heap.size = w.heap.size + 2 by simp] at h
  have hU0 : Upd [] w W0 := by rw [hW0]; exact (((Upd.refl _ _).alloc _).alloc _).alloc _
  have HMS := Lib.hid (show ((!(decide (m < 0) == decide (n < 0))) && decide (((m.natAbs : Int) * (n.natAbs : Int)) ≠ 0)) = decide (m * n < 0) from mul_sign m n)
  obtain ⟨p, hp⟩ : ∃ p, p = decide (m < 0) := ⟨_, rfl⟩
  obtain ⟨q, hq⟩ : ∃ q, q = decide (n < 0) := ⟨_, rfl⟩
  rw [← hp] at b0 hW0 HMS ⊢
  rw [← hq] at b1 hW0 HMS ⊢
  have y0 := b0.cell (j := 0) rfl
  have y1 := b0.cell (j := 1) rfl
  have z0 := b1.cell (j := 0) rfl
  have z1 := b1.cell (j := 1) rfl
  have f0 := b2.free 0
  have f1 := b2.free 1
  have r0 := b2.cell (j := 0) rfl
  have r1 := b2.cell (j := 1) rfl
  have HB2 := Lib.hid b2
  have HC0 := Lib.hid (show (∀ W, Upd [] W0 W → W.cell? ⟨w.heap.size, 0, none⟩ = some (.bool p)) ∧ (∀ W, Upd [] W0 W → W.cell? ⟨w.heap.size, 1, none⟩ = some (.slice A a.length c)) ∧ (∀ W, Upd [] W0 W → W.cell? ⟨w.heap.size + 1, 0, none⟩ = some (.bool q)) ∧ (∀ W, Upd [] W0 W → W.cell? ⟨w.heap.size + 1, 1, none⟩ = some (.slice B b.length d)) from ⟨fun W h => h.cell y0 (by simp), fun W h => h.cell y1 (by simp), fun W h => h.cell z0 (by simp), fun W h => h.cell z1 (by simp)⟩)
  have HU0 := Lib.hid hU0
  have hlt := b2.lt
  have KA := Lib.hid (And.intro ka kb)
  clear hU0 hp hq b0 b1 b2 ra rb la lb ca cb va vb ka kb
  go_enter Try.func64, Try.ntmps64
  go_wp2_with fail
  rw [show (((w.alloc (Obj.cells #[Value.bool p, Value.slice A a.length c] 98)).alloc (Obj.cells #[Value.bool q, Value.slice B b.length d] 98)).alloc (Obj.cells #[Value.bool false, Value.slice none 0 0] 98)) = W0 from hW0.symm]
  clear hW0
  clear y0 y1 z0 z1 f0 f1 r0 r1
  refine region_rel 11 (by kernel_rfl) (by kernel_rfl) rfl (by kernel_rfl) (fun D aa W => ∃ x5 x6 x7 x8 x9 x10 x11 x12 x13 x14 x15 : Value, aa = { tmps := #[.agg #[.bool p, .slice A a.length c], .agg #[.bool q, .slice B b.length d], .pointer (some ⟨w.heap.size, 0, none⟩), .pointer (some ⟨w.heap.size + 1, 0, none⟩), .pointer (some ⟨w.heap.size + 1 + 1, 0, none⟩), x5, x6, x7, x8, x9, x10, x11, x12, x13, x14, x15], defers := [] } ∧ Upd [] W0 W ∧ (D 0 = true → x5 = .pointer (some ⟨w.heap.size, 0, none⟩)) ∧ (D 1 = true → x6 = .bool p) ∧ (D 2 = true → x7 = .pointer (some ⟨w.heap.size + 1, 0, none⟩)) ∧ (D 3 = true → x8 = .bool q) ∧ (D 4 = true → x9 = .bool (!(p == q))) ∧ (D 5 = true → x10 = .pointer (some ⟨w.heap.size, 1, none⟩)) ∧ (D 6 = true → x11 = .slice A a.length c) ∧ (D 7 = true → x12 = .pointer (some ⟨w.heap.size + 1, 1, none⟩)) ∧ (D 8 = true → x13 = .slice B b.length d) ∧ (D 9 = true → MRes W (W0.heap.size ≤ ·) x14 ((m.natAbs : Int) * (n.natAbs : Int)) (K + J)) ∧ (D 10 = true → NumAt W (W0.heap.size ≤ ·) x15 (m * n) (K + J))) ⟨_, _, _, _, _, _, _, _, _, _, _, rfl, (Upd.refl _ _).drew, (fun h => by cases h), (fun h => by cases h), (fun h => by cases h), (fun h => by cases h), (fun h => by cases h), (fun h => by cases h), (fun h => by cases h), (fun h => by cases h), (fun h => by cases h), (fun h => by cases h), (fun h => by cases h)⟩ ?_ ?_
  · rintro D aa W i o ⟨x5, x6, x7, x8, x9, x10, x11, x12, x13, x14, x15, rfl, hU, h0, h1, h2, h3, h4, h5, h6, h7, h8, h9, h10⟩ hi ho hdep
    match i with
    | 0 =>
      refine wpOp_via ho fun KK hK => ?_
      have HK := Lib.hid hK
      clear hK
      obtain rfl := Option.some.inj ho
      have HUW := Lib.hid hU
      clear hU
      go_wp2
      exact HK.out _ _ ⟨_, _, _, _, _, _, _, _, _, _, _, rfl, HUW.out, (fun _ => rfl), (by simpa using h1), (by simpa using h2), (by simpa using h3), (by simpa using h4), (by simpa using h5), (by simpa using h6), (by simpa using h7), (by simpa using h8), (fun h => h9 (by simpa using h)), (fun h => h10 (by simpa using h))⟩
    | 1 =>
      refine wpOp_via ho fun KK hK => ?_
      have HK := Lib.hid hK
      clear hK
      obtain rfl := Option.some.inj ho
      obtain rfl := h0 (hdep ⟨0, .data⟩ (by simp) rfl)
      have HUW := Lib.hid hU
      clear hU
      have y0 := HC0.out.1 _ HUW.out
      go_wp2
      exact HK.out _ _ ⟨_, _, _, _, _, _, _, _, _, _, _, rfl, HUW.out, (by simp), (fun _ => rfl), (by simpa using h2), (by simpa using h3), (by simpa using h4), (by simpa using h5), (by simpa using h6), (by simpa using h7), (by simpa using h8), (fun h => h9 (by simpa using h)), (fun h => h10 (by simpa using h))⟩
    | 2 =>
      refine wpOp_via ho fun KK hK => ?_
      have HK := Lib.hid hK
      clear hK
      obtain rfl := Option.some.inj ho
      have HUW := Lib.hid hU
      clear hU
      go_wp2
      exact HK.out _ _ ⟨_, _, _, _, _, _, _, _, _, _, _, rfl, HUW.out, (by simpa using h0), (by simpa using h1), (fun _ => rfl), (by simpa using h3), (by simpa using h4), (by simpa using h5), (by simpa using h6), (by simpa using h7), (by simpa using h8), (fun h => h9 (by simpa using h)), (fun h => h10 (by simpa using h))⟩
    | 3 =>
      refine wpOp_via ho fun KK hK => ?_
      have HK := Lib.hid hK
      clear hK
      obtain rfl := Option.some.inj ho
      obtain rfl := h2 (hdep ⟨2, .data⟩ (by simp) rfl)
      have HUW := Lib.hid hU
      clear hU
      have y0 := HC0.out.2.2.1 _ HUW.out
      go_wp2
      exact HK.out _ _ ⟨_, _, _, _, _, _, _, _, _, _, _, rfl, HUW.out, (by simpa using h0), (by simpa using h1), (by simp), (fun _ => rfl), (by simpa using h4), (by simpa using h5), (by simpa using h6), (by simpa using h7), (by simpa using h8), (fun h => h9 (by simpa using h)), (fun h => h10 (by simpa using h))⟩
    | 4 =>
      refine wpOp_via ho fun KK hK => ?_
      have HK := Lib.hid hK
      clear hK
      obtain rfl := Option.some.inj ho
      obtain rfl := h1 (hdep ⟨1, .data⟩ (by simp) rfl)
      obtain rfl := h3 (hdep ⟨3, .data⟩ (by simp) rfl)
      have HUW := Lib.hid hU
      clear hU
      go_wp2
      exact HK.out _ _ ⟨_, _, _, _, _, _, _, _, _, _, _, rfl, HUW.out, (by simpa using h0), (by simp), (by simpa using h2), (by simp), (fun _ => rfl), (by simpa using h5), (by simpa using h6), (by simpa using h7), (by simpa using h8), (fun h => h9 (by simpa using h)), (fun h => h10 (by simpa using h))⟩
    | 5 =>
      refine wpOp_via ho fun KK hK => ?_
      have HK := Lib.hid hK
      clear hK
      obtain rfl := Option.some.inj ho
      have HUW := Lib.hid hU
      clear hU
      go_wp2
      exact HK.out _ _ ⟨_, _, _, _, _, _, _, _, _, _, _, rfl, HUW.out, (by simpa using h0), (by simpa using h1), (by simpa using h2), (by simpa using h3), (by simpa using h4), (fun _ => rfl), (by simpa using h6), (by simpa using h7), (by simpa using h8), (fun h => h9 (by simpa using h)), (fun h => h10 (by simpa using h))⟩
    | 6 =>
      refine wpOp_via ho fun KK hK => ?_
      have HK := Lib.hid hK
      clear hK
      obtain rfl := Option.some.inj ho
      obtain rfl := h5 (hdep ⟨5, .data⟩ (by simp) rfl)
      have HUW := Lib.hid hU
      clear hU
      have y0 := HC0.out.2.1 _ HUW.out
      go_wp2
      exact HK.out _ _ ⟨_, _, _, _, _, _, _, _, _, _, _, rfl, HUW.out, (by simpa using h0), (by simpa using h1), (by simpa using h2), (by simpa using h3), (by simpa using h4), (by simp), (fun _ => rfl), (by simpa using h7), (by simpa using h8), (fun h => h9 (by simpa using h)), (fun h => h10 (by simpa using h))⟩
    | 7 =>
      refine wpOp_via ho fun KK hK => ?_
      have HK := Lib.hid hK
      clear hK
      obtain rfl := Option.some.inj ho
      have HUW := Lib.hid hU
      clear hU
      go_wp2
      exact HK.out _ _ ⟨_, _, _, _, _, _, _, _, _, _, _, rfl, HUW.out, (by simpa using h0), (by simpa using h1), (by simpa using h2), (by simpa using h3), (by simpa using h4), (by simpa using h5), (by simpa using h6), (fun _ => rfl), (by simpa using h8), (fun h => h9 (by simpa using h)), (fun h => h10 (by simpa using h))⟩
    | 8 =>
      refine wpOp_via ho fun KK hK => ?_
      have HK := Lib.hid hK
      clear hK
      obtain rfl := Option.some.inj ho
      obtain rfl := h7 (hdep ⟨7, .data⟩ (by simp) rfl)
      have HUW := Lib.hid hU
      clear hU
      have y0 := HC0.out.2.2.2 _ HUW.out
      go_wp2
      exact HK.out _ _ ⟨_, _, _, _, _, _, _, _, _, _, _, rfl, HUW.out, (by simpa using h0), (by simpa using h1), (by simpa using h2), (by simpa using h3), (by simpa using h4), (by simpa using h5), (by simpa using h6), (by simp), (fun _ => rfl), (fun h => h9 (by simpa using h)), (fun h => h10 (by simpa using h))⟩
    | 9 =>
      refine wpOp_via ho fun KK hK => ?_
      have HK := Lib.hid hK
      clear hK
      obtain rfl := Option.some.inj ho
      obtain rfl := h6 (hdep ⟨6, .data⟩ (by simp) rfl)
      obtain rfl := h8 (hdep ⟨8, .data⟩ (by simp) rfl)
      have HUW := Lib.hid hU
      clear hU
      go_wp2_with fail
      refine (HC.out _ (HU0.out.then HUW.out)).mono ?_
      rintro e w1 ⟨v1, l1, rfl, hr1, hl1, hc1, hv1, hk1, hU1⟩
      have hx : MRes w1 (W0.heap.size ≤ ·) v1 ((m.natAbs : Int) * (n.natAbs : Int)) (K + J) := ⟨l1, hr1.mono (fun y hy => Nat.le_trans HUW.out.size hy), hl1, hc1, hv1, by have := KA.out; omega⟩
      obtain ⟨A1, c1, rfl, _, _, _⟩ := hr1.shape
      go_wp2
      exact HK.out _ _ ⟨_, _, _, _, _, _, _, _, _, _, _, rfl, HUW.out.then hU1, (by simpa using h0), (by simpa using h1), (by simpa using h2), (by simpa using h3), (by simpa using h4), (by simpa using h5), (by simp), (by simpa using h7), (by simp), (fun _ => hx), (fun h => NumAt.upd0 (h10 (by simpa using h)) hU1)⟩
    | 10 =>
      refine wpOp_via ho fun KK hK => ?_
      have HK := Lib.hid hK
      clear hK
      obtain rfl := Option.some.inj ho
      obtain rfl := h4 (hdep ⟨4, .data⟩ (by simp) rfl)
      have r9 := h9 (hdep ⟨9, .data⟩ (by simp) rfl)
      have HUW := Lib.hid hU
      clear hU
      obtain ⟨l1, hr1, hl1, hc1, hv1, hk1⟩ := r9
      go_wp2_with fail
      have HM := make2_calls _ (!(p == q)) _ _ _ hr1
      obtain ⟨bb, hbb⟩ : ∃ bb, bb = ((!(p == q)) && decide (trimL l1 ≠ [])) := ⟨_, rfl⟩
      rw [← hbb] at HM
      refine HM.mono ?_
      rintro e w1 ⟨v2, rfl, hsub, hU1⟩
      have hx : NumAt w1 (W0.heap.size ≤ ·) (.agg #[.bool bb, v2]) (m * n) (K + J) := ⟨_, _, by rw [hbb, trimL_id hc1, lv0' hl1 hc1, hv1, HMS.out], hsub _ _ (hr1.upd0 hU1), trimL_limbs hl1, trimL_canon _, by rw [trimL_lv, hv1, Int.natAbs_mul, Int.natCast_mul], by have := trimL_length l1; omega⟩
      clear HM hbb hsub
      go_wp2
      exact HK.out _ _ ⟨_, _, _, _, _, _, _, _, _, _, _, rfl, HUW.out.then hU1, (by simpa using h0), (by simpa using h1), (by simpa using h2), (by simpa using h3), (by simp), (by simpa using h5), (by simpa using h6), (by simpa using h7), (by simpa using h8), (fun h => MRes.upd0 (h9 (by simpa using h)) hU1), (fun _ => hx)⟩
    | i + 11 => omega
  · rintro D aa W o ⟨x5, x6, x7, x8, x9, x10, x11, x12, x13, x14, x15, rfl, hU, h0, h1, h2, h3, h4, h5, h6, h7, h8, h9, h10⟩ hall ho
    refine wpOp_of_list ho ?_
    obtain rfl := Option.some.inj ho
    obtain rfl := h0 (hall 0 (by omega))
    obtain rfl := h1 (hall 1 (by omega))
    obtain rfl := h2 (hall 2 (by omega))
    obtain rfl := h3 (hall 3 (by omega))
    obtain rfl := h4 (hall 4 (by omega))
    obtain rfl := h5 (hall 5 (by omega))
    obtain rfl := h6 (hall 6 (by omega))
    obtain rfl := h7 (hall 7 (by omega))
    obtain rfl := h8 (hall 8 (by omega))
    have r9 := h9 (hall 9 (by omega))
    have r10 := h10 (hall 10 (by omega))
    obtain ⟨sl, l, rfl, hr, h1, h2, h3, h4⟩ := r10
    obtain ⟨A', c', rfl, _, _, _⟩ := hr.shape
    have hb2 := HB2.out.upd hU (by simp)
    have g0 := hb2.free 0
    have g1 := hb2.free 1
    have s0 := hb2.cell (j := 0) rfl
    have s1 := hb2.cell (j := 1) rfl
    have HR3 := Lib.hid (fun (x y : Value) => (hr.upd (S := [w.heap.size + 1 + 1]) (((Upd.refl _ W).setCell (p := ⟨w.heap.size + 1 + 1, 0, none⟩) (.inl (by simp)) x).setCell (p := ⟨w.heap.size + 1 + 1, 1, none⟩) (.inl (by simp)) y) (fun b hb hf => by simp at hb; subst hb; omega)).mono (G := (w.heap.size ≤ ·)) (fun b hb => by omega))
    have HL := Lib.hid (And.intro h1 (And.intro h2 (And.intro h3 h4)))
    have HUF := Lib.hid (HU0.out.then hU)
    have HBX := Lib.hid hb2
    obtain ⟨bb, hbb⟩ : ∃ bb, bb = decide (m * n < 0) := ⟨_, rfl⟩
    rw [← hbb]
    have HBB := Lib.hid hbb
    clear hr h1 h2 h3 h4 hU hb2 hbb
    go_wp2
    have hy := (HBX.out.set 0 (.bool bb)).set 1 (.slice A' l.length c')
    have k0 := hy.cell (j := 0) rfl
    have k1 := hy.cell (j := 1) rfl
    refine bodyPost_ret (v := .agg #[.bool bb, .slice A' l.length c']) ?_ rfl ⟨_, rfl, ⟨_, _, by rw [HBB.out], HR3.out _ _, HL.out⟩, (HUF.out.setCell (.inr (by simp; omega)) _).setCell (.inr (by simp; omega)) _⟩
    simp [results, Try.f64, go_sem, k0, k1]
end Go.Proofs.Ytdjpcinibgbglaa
namespace Go.Proofs.Ytdjpcinibgbglaa
open Go.RowKit Go.Sort
theorem wide80 : wide 1208925819614629174706176 = .agg #[.int .i64 65536, .int .u64 0] := by unfold wide wh wl; rfl
set_option maxRecDepth 10000 in
set_option maxHeartbeats 1000000 in
theorem size_calls (n : Int) (hn : I64 n) (w : World) :
    Calls Try.prog 39 #[.int .i64 n] w fun e w' => ∃ v', e = .returned v' ∧ NumAt w' (w.heap.size ≤ ·) v' (1208925819614629174706176 * n) 16 ∧ Upd [] w w' := by
  have HI := Lib.hid (fun W => int_calls n hn W)
  have HF := Lib.hid (fun W => from_calls 1208925819614629174706176 (by unfold I128; omega) W)
  rw [wide80] at HF
  have hB := HB.new w 98 [.bool false, .slice none 0 0]
  have HB0 := Lib.hid hB
  have HU0 := Lib.hid ((Upd.refl [] w).alloc (.cells #[.bool false, .slice none 0 0] 98))
  have hlt := hB.lt
  clear hB
  go_enter Try.func39, Try.ntmps39
  go_wp2_with fail
  refine (HF.out _).mono ?_
  rintro e w1 ⟨v1, rfl, hN1, hU1⟩
  have HN1 := Lib.hid hN1
  have HU1 := Lib.hid hU1
  clear hN1 hU1
  go_wp2_with fail
  refine (HI.out _).mono ?_
  rintro e w2 ⟨v2, rfl, hN2, hU2⟩
  have HM := Lib.hid (mulN_calls _ _ v1 v2 _ _ _ _ w2 (HN1.out.upd0 hU2) hN2 (by omega))
  have HU2 := Lib.hid (HU1.out.then hU2)
  clear hN2 hU2
  go_wp2_with fail
  refine HM.out.mono ?_
  rintro e w3 ⟨v', rfl, hN, hU3⟩
  have hU12 := HU2.out.then hU3
  have hb := HB0.out.upd hU12 (by simp)
  have f0 := hb.free 0
  have f1 := hb.free 1
  have y0 := hb.cell (j := 0) rfl
  have y1 := hb.cell (j := 1) rfl
  have HBX := Lib.hid hb
  have HU3 := Lib.hid (HU0.out.then hU12)
  have hlt1 : w.heap.size < w2.heap.size := Nat.lt_of_lt_of_le hlt HU2.out.size
  obtain ⟨sl, l, rfl, hr, h1, h2, h3, h4⟩ := hN
  have HR3 := Lib.hid (fun (x y : Value) => (hr.upd (S := [w.heap.size]) (((Upd.refl _ w3).setCell (p := ⟨w.heap.size, 0, none⟩) (.inl (by simp)) x).setCell (p := ⟨w.heap.size, 1, none⟩) (.inl (by simp)) y) (fun b hb hf => by simp at hb; subst hb; omega)).mono (G := (w.heap.size ≤ ·)) (fun b hb => by omega))
  have HL := Lib.hid (And.intro h1 (And.intro h2 (And.intro h3 h4)))
  obtain ⟨A, c, rfl, _, _, _⟩ := hr.shape
  obtain ⟨p, hp⟩ : ∃ p, p = decide (1208925819614629174706176 * n < 0) := ⟨_, rfl⟩
  rw [← hp]
  have HP := Lib.hid hp
  clear hU3 hU12 hb hr h1 h2 h3 h4 hp hlt hlt1
  go_wp2
  have hy := (HBX.out.set 0 (.bool p)).set 1 (.slice A l.length c)
  have k0 := hy.cell (j := 0) rfl
  have k1 := hy.cell (j := 1) rfl
  refine bodyPost_ret (v := .agg #[.bool p, .slice A l.length c]) ?_ rfl ⟨_, rfl, ⟨_, _, by rw [HP.out], HR3.out _ _, HL.out⟩, (HU3.out.setCell (.inr (by simp)) _).setCell (.inr (by simp)) _⟩
  simp [results, Try.f39, go_sem, k0, k1]
theorem NumAt.abs {w : World} {F : Nat → Prop} {p : Bool} {sl : Value} {n : Int} {K : Nat} (h : NumAt w F (.agg #[.bool p, sl]) n K) : NumAt w F (.agg #[.bool false, sl]) (n.natAbs : Int) K := by
  obtain ⟨s, l, e, hr, h1, h2, h3, h4⟩ := h
  injection e with e
  simp at e
  obtain ⟨rfl, rfl⟩ := e
  exact ⟨_, l, by simp, hr, h1, h2, by rw [h3]; simp, h4⟩
theorem cmp_fit (v s : Int) : decide (cmpW (v.natAbs : Int) (1208925819614629174706176 * s) ≤ 0) = fitV v s := by
  unfold fitV cmpW
  by_cases h : (v.natAbs : Int) ≤ 1208925819614629174706176 * s
  · rw [decide_eq_true h]; split <;> (try split) <;> (first | rfl | omega)
  · rw [decide_eq_false h, if_neg (by omega), if_neg (by omega)]; rfl
set_option maxRecDepth 10000 in
set_option maxHeartbeats 1000000 in
theorem rfits_calls (v s : Int) (hv : I128 v) (hs : I64 s) (w : World) :
    Calls Try.prog 18 #[wide v, .int .i64 s] w fun e w' => e = .returned (.bool (fitV v s)) ∧ Upd [] w w' := by
  have HF := Lib.hid (fun W => from_calls v hv W)
  have HS := Lib.hid (fun W => size_calls s hs W)
  have hB := HB.new w 47 [.int .i64 (wh v), .int .u64 (wl v)]
  have y0 := hB.cell (j := 0) rfl
  have y1 := hB.cell (j := 1) rfl
  have HU0 := Lib.hid ((Upd.refl [] w).alloc (.cells #[.int .i64 (wh v), .int .u64 (wl v)] 47))
  have HCF := Lib.hid (cmp_fit v s)
  clear hB
  go_enter Try.func18, Try.ntmps18
  go_wp2_with fail
  refine (HF.out _).mono ?_
  rintro e w1 ⟨v1, rfl, hN1, hU1⟩
  obtain ⟨sl, l, rfl, hr, h1, h2, h3, h4⟩ := hN1
  obtain ⟨A, c, rfl, hc1, hc2, hc3⟩ := hr.shape
  obtain ⟨p, hp⟩ : ∃ p, p = decide (v < 0) := ⟨_, rfl⟩
  rw [← hp]
  have HN := Lib.hid (show NumAt w1 _ (.agg #[.bool p, .slice A l.length c]) v 8 from ⟨_, l, by rw [hp], hr, h1, h2, h3, h4⟩)
  have HU1 := Lib.hid (HU0.out.then hU1)
  have hz := HB.new w1 98 [.bool p, .slice A l.length c]
  have f0 := hz.free 0
  have z0 := hz.cell (j := 0) rfl
  have z1 := hz.cell (j := 1) rfl
  have HZ := Lib.hid hz
  clear hU1 hr h1 h2 h3 h4 hp hz y0 y1 hc1 hc2 hc3
  go_wp2_with fail
  obtain ⟨W0, hW0⟩ : ∃ W0, W0 = w1.alloc (.cells #[.bool false, .slice A l.length c] 98) := ⟨_, rfl⟩
  rw [← hW0]
  have hb := HB.new w1 98 [.bool false, .slice A l.length c]
  have HC0 := Lib.hid (show ∀ W, Upd [] W0 W → W.cell? ⟨w1.heap.size, 0, none⟩ = some (.bool false) ∧ W.cell? ⟨w1.heap.size, 1, none⟩ = some (.slice A l.length c) from fun W hW => ⟨hW.cell (by rw [hW0]; exact hb.cell (j := 0) rfl) (by simp), hW.cell (by rw [hW0]; exact hb.cell (j := 1) rfl) (by simp)⟩)
  have HUW0 := Lib.hid (show Upd [] w1 W0 by rw [hW0]; exact (Upd.refl _ _).alloc _)
  have HNA := Lib.hid HN.out.abs
  clear hW0 hb f0 z0 z1
  refine region_rel 5 (by kernel_rfl) (by kernel_rfl) rfl (by kernel_rfl) (fun D aa W => ∃ x9 x10 x11 x12 x13 : Value, aa = { tmps := #[wide v, .int .i64 s, .pointer (some ⟨w.heap.size, 0, none⟩), undef, .bool false, .pointer (some ⟨w1.heap.size, 0, none⟩), .agg #[.int .i64 (wh v), .int .u64 (wl v)], .agg #[.bool p, .slice A l.length c], .pointer (some ⟨w1.heap.size, 0, none⟩), x9, x10, x11, x12, x13], defers := [] } ∧ Upd [] W0 W ∧ (D 0 = true → x9 = .agg #[.bool false, .slice A l.length c]) ∧ (D 1 = true → x10 = .int .i64 s) ∧ (D 2 = true → NumAt W (w1.heap.size ≤ ·) x11 (1208925819614629174706176 * s) 16) ∧ (D 3 = true → x12 = .int .i64 (cmpW (v.natAbs : Int) (1208925819614629174706176 * s))) ∧ (D 4 = true → x13 = .bool (decide (cmpW (v.natAbs : Int) (1208925819614629174706176 * s) ≤ 0)))) ⟨_, _, _, _, _, rfl, (Upd.refl _ _).drew, (fun h => by cases h), (fun h => by cases h), (fun h => by cases h), (fun h => by cases h), (fun h => by cases h)⟩ ?_ ?_
  · rintro D aa W i o ⟨x9, x10, x11, x12, x13, rfl, hU, h0, h1, h2, h3, h4⟩ hi ho hdep
    match i with
    | 0 =>
      refine wpOp_via ho fun KK hK => ?_
      have HK := Lib.hid hK
      clear hK
      obtain rfl := Option.some.inj ho
      have HUW := Lib.hid hU
      clear hU
      obtain ⟨q0, q1⟩ := HC0.out _ HUW.out
      go_wp2
      exact HK.out _ _ ⟨_, _, _, _, _, rfl, HUW.out, (fun _ => rfl), (by simpa using h1), (fun h => h2 (by simpa using h)), (by simpa using h3), (by simpa using h4)⟩
    | 1 =>
      refine wpOp_via ho fun KK hK => ?_
      have HK := Lib.hid hK
      clear hK
      obtain rfl := Option.some.inj ho
      have HUW := Lib.hid hU
      clear hU
      go_wp2
      exact HK.out _ _ ⟨_, _, _, _, _, rfl, HUW.out, (by simpa using h0), (fun _ => rfl), (fun h => h2 (by simpa using h)), (by simpa using h3), (by simpa using h4)⟩
    | 2 =>
      refine wpOp_via ho fun KK hK => ?_
      have HK := Lib.hid hK
      clear hK
      obtain rfl := Option.some.inj ho
      obtain rfl := h1 (hdep ⟨1, .data⟩ (by simp) rfl)
      have HUW := Lib.hid hU
      clear hU
      go_wp2_with fail
      refine (HS.out _).mono ?_
      rintro e w2 ⟨v2, rfl, hn2, hU1⟩
      have hx := hn2.mono (G := (w1.heap.size ≤ ·)) (J := 16) (fun b hb => Nat.le_trans (HUW0.out.then HUW.out).size hb) (Nat.le_refl _)
      go_wp2
      exact HK.out _ _ ⟨_, _, _, _, _, rfl, HUW.out.then hU1, (by simpa using h0), (by simp), (fun _ => hx), (by simpa using h3), (by simpa using h4)⟩
    | 3 =>
      refine wpOp_via ho fun KK hK => ?_
      have HK := Lib.hid hK
      clear hK
      obtain rfl := Option.some.inj ho
      obtain rfl := h0 (hdep ⟨0, .data⟩ (by simp) rfl)
      have r2 := h2 (hdep ⟨2, .data⟩ (by simp) rfl)
      have HUW := Lib.hid hU
      clear hU
      have HCC := Lib.hid (cmpN_calls _ _ _ _ _ _ _ _ _ ((HNA.out.upd0 HUW0.out).upd0 HUW.out) r2)
      clear r2
      go_wp2_with fail
      refine HCC.out.mono ?_
      rintro e w2 ⟨rfl, hU1⟩
      go_wp2
      exact HK.out _ _ ⟨_, _, _, _, _, rfl, HUW.out.then hU1, (by simp), (by simpa using h1), (fun h => NumAt.upd0 (h2 (by simpa using h)) hU1), (fun _ => rfl), (by simpa using h4)⟩
    | 4 =>
      refine wpOp_via ho fun KK hK => ?_
      have HK := Lib.hid hK
      clear hK
      obtain rfl := Option.some.inj ho
      obtain rfl := h3 (hdep ⟨3, .data⟩ (by simp) rfl)
      have HUW := Lib.hid hU
      clear hU
      go_wp2
      exact HK.out _ _ ⟨_, _, _, _, _, rfl, HUW.out, (by simpa using h0), (by simpa using h1), (fun h => h2 (by simpa using h)), (by simp), (fun _ => rfl)⟩
    | i + 5 => omega
  · rintro D aa W o ⟨x9, x10, x11, x12, x13, rfl, hU, h0, h1, h2, h3, h4⟩ hall ho
    refine wpOp_of_list ho ?_
    obtain rfl := Option.some.inj ho
    obtain rfl := h0 (hall 0 (by omega))
    obtain rfl := h1 (hall 1 (by omega))
    have r2 := h2 (hall 2 (by omega))
    obtain rfl := h3 (hall 3 (by omega))
    obtain rfl := h4 (hall 4 (by omega))
    have HUF := Lib.hid ((HU1.out.then HUW0.out).then hU)
    rw [HCF.out]
    clear hU
    go_wp2
    go_ret
    exact ⟨rfl, HUF.out⟩
end Go.Proofs.Ytdjpcinibgbglaa
