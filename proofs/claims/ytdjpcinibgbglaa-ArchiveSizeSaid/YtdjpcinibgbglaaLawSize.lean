/- The law ArchiveSize. -/
import Derived.Test.YtdjpcinibgbglaaLawB
import Derived.Test.YtdjpcinibgbglaaRNum2
import Derived.Test.YtdjpcinibgbglaaSizeP
import Derived.Test.YtdjpcinibgbglaaPoints
import Derived.Test.YtdjpcinibgbglaaAlive
set_option linter.unusedVariables false
set_option linter.unusedSimpArgs false
namespace Go.Proofs.Ytdjpcinibgbglaa
open Go.RowKit Go.Sort
theorem spc_at {f : Fl} {l : List Spc} (h : f.bands.map Band.spc = l) {i : Nat} (hi : i < l.length) : ∃ b, f.bands[i]? = some b ∧ l[i]? = some b.spc := by
  subst h
  rw [List.length_map] at hi
  exact ⟨f.bands[i], List.getElem?_eq_getElem hi, by rw [List.getElem?_map, List.getElem?_eq_getElem hi]; rfl⟩
theorem apart_at {b : Band} {l : List Pt} (h : PtsOk b l) {i j : Nat} {p q : Pt} (hij : i < j) (hp : l[i]? = some p) (hq : l[j]? = some q) : b.place p.t ≠ b.place q.t := by
  obtain ⟨h1, e1⟩ := List.getElem?_eq_some_iff.1 hp
  obtain ⟨h2, e2⟩ := List.getElem?_eq_some_iff.1 hq
  have := List.pairwise_iff_getElem.1 h.apart i j h1 h2 hij
  rwa [e1, e2] at this
theorem rise_at {b : Band} {l : List Pt} (h : PtsOk b l) {i j : Nat} {p q : Pt} (hij : i < j) (hp : l[i]? = some p) (hq : l[j]? = some q) : p.t < q.t := by
  obtain ⟨h1, e1⟩ := List.getElem?_eq_some_iff.1 hp
  obtain ⟨h2, e2⟩ := List.getElem?_eq_some_iff.1 hq
  have := List.pairwise_iff_getElem.1 h.rise i j h1 h2 hij
  rwa [e1, e2] at this
set_option maxRecDepth 20000 in
set_option maxHeartbeats 4000000 in
theorem archiveSize_calls (c0 : List Value) (x0 : GT.den (.slice gSpec)) (c1 : List Value) (x1 : GT.den gI) (c2 : List Value) (x2 : GT.den gI) (c3 : List Value) (x3 : GT.den (.slice gOp)) (W : World) (h0 : Rd W (· < W.heap.size) (.slice gSpec) c0 x0) (h1 : Rd W (· < W.heap.size) gI c1 x1) (h2 : Rd W (· < W.heap.size) gI c2 x2) (h3 : Rd W (· < W.heap.size) (.slice gOp) c3 x3) :
    Calls Try.prog 4 #[GT.val (.slice gSpec) c0, GT.val gI c1, GT.val gI c2, GT.val (.slice gOp) c3] W fun e w' => e = .returned (.bool true) ∧ Upd [] W w' := by
  obtain ⟨v, rfl, hr, hs⟩ := spec_row h0
  obtain ⟨rfl, hm⟩ := open_i64 h1
  obtain ⟨rfl, hx⟩ := open_i64 h2
  obtain ⟨vs, rfl, ho, hok⟩ := op_row h3
  show Calls Try.prog 4 #[v, .int .i64 x1, .int .i64 x2, vs] W _
  clear h0 h1 h2 h3
  generalize x1 = m at *
  generalize x2 = x at *
  generalize x0.map toSpc = l at *
  generalize x3.map toOp = ops at *
  by_cases hc : creErr l m x = 0
  · obtain ⟨A, c, rfl, hc1, hc2, hc3⟩ := hr.shape
    have hlm := Nat.le_trans hc1 (Nat.le_trans hc2 maxLen_le)
    have HMD := Lib.hid (lmade_ok _ _ _ vs l m x ops W hr hs hc ho hok)
    have HSP := Lib.hid (show (ups (newF l m x) ops).bands.map Band.spc = l by rw [ups_spc, newF_spc (creErr_ok hc).1])
    obtain ⟨f, hf⟩ : ∃ f, f = ups (newF l m x) ops := ⟨_, rfl⟩
    rw [← hf] at HMD HSP
    have HR := Lib.hid hr
    clear hr hs hc ho hok hc1 hc2 hc3 hm hx hf
    go_enter Try.func4, Try.ntmps4
    go_wp2_with fail
    refine HMD.out.mono ?_
    rintro e w1 ⟨fb, bv, Ls, rfl, hfb, hF, hfo, hU1⟩
    have HF := Lib.hid hF
    have HFO := Lib.hid hfo
    have HU1 := Lib.hid hU1
    clear hfb hF hfo hU1 HMD
    go_wp2_with fail
    go_loopw [12] (fun i wr => ∃ k : Nat, k ≤ l.length ∧ i = .int .i64 (k : Int) ∧ Upd [] w1 wr) (fun i _ => l.length - (intOf i).toNat)
    case atStart => exact ⟨0, Nat.zero_le _, rfl, Upd.refl _ _⟩
    case round =>
      obtain ⟨i, hi, rfl, hU⟩ := hrel
      generalize wr = wa at *
      have HUA := Lib.hid hU
      clear hU
      by_cases hlt : i < l.length
      · obtain ⟨b, hb, hls⟩ := spc_at HSP.out hlt
        have HP := Lib.hid (pointsF_in W.heap.size fb f bv Ls i b wa (HF.out.upd0 HUA.out) HFO.out hb)
        have hbok := HFO.out.bands b (List.mem_of_getElem? hb)
        have HBOK := Lib.hid hbok
        have hbb := hbok.b
        have hiI : (i : Int) < (l.length : Int) := by omega
        have hms : l.length - (i + 1) < l.length - i := by omega
        obtain ⟨g, o, rfl, _, hcell⟩ := HR.out.at_ hls
        have HC0 := Lib.hid (fun W' (hW : Upd [] w1 W') => And.intro ((HU1.out.then hW).cell (show W.cell? ⟨g, o + i * 2, none⟩ = some (.int .i64 b.step) from hcell 0 _ rfl) (by simp)) ((HU1.out.then hW).cell (show W.cell? ⟨g, o + i * 2 + 1, none⟩ = some (.int .i64 b.n) from hcell 1 _ rfl) (by simp)))
        clear hcell hls hb hbok
        go_wp2_with fail
        refine HP.out.mono ?_
        rintro e w2 ⟨v', l', rfl, hperm, hsort, hown, hU2⟩
        have hpts := ptsOk HBOK.out hperm hsort
        obtain ⟨hlen', hrow⟩ := own_row ptR_len (by decide) hown
        obtain ⟨B, d, rfl, hd1, hd2, hd3⟩ := hrow.shape
        have HROW := Lib.hid hrow
        have HPT := Lib.hid hpts
        have HU2 := Lib.hid (HUA.out.then hU2)
        have hlen := hpts.len
        have hlm2 := Nat.le_trans hd1 (Nat.le_trans hd2 maxLen_le)
        obtain ⟨c0, c1⟩ := HC0.out w2 HU2.out
        have dl : decide (b.n < l'.length) = false := decide_eq_false (by omega)
        clear hperm hsort hown hU2 hlen' hrow hd1 hd2 hd3 hpts HP
        go_wp2_with fail
        clear c0 c1
        go_loopw [14] (fun kv wr => ∃ k : Nat, k ≤ l'.length ∧ kv = .int .i64 (k : Int) ∧ Upd [] w2 wr) (fun kv _ => l'.length - (intOf kv).toNat)
        case atStart => exact ⟨0, Nat.zero_le _, rfl, Upd.refl _ _⟩
        case round =>
          obtain ⟨k, hk, rfl, hU⟩ := hrel
          generalize wr = wb at *
          have HUB := Lib.hid hU
          clear hU
          by_cases hkl : k < l'.length
          · obtain ⟨p, hp⟩ : ∃ p, l'[k]? = some p := ⟨l'[k], List.getElem?_eq_getElem hkl⟩
            have hpe := HPT.out.each p (List.mem_of_getElem? hp)
            obtain ⟨g2, o2, rfl, _, hcp⟩ := HROW.out.at_ hp
            have HC1 := Lib.hid (fun W' (hW : Upd [] w2 W') => And.intro (hW.cell (show w2.cell? ⟨g2, o2 + k * 3, none⟩ = some (.int .i64 p.t) by simpa using hcp 0 _ rfl) (by simp)) (And.intro (hW.cell (show w2.cell? ⟨g2, o2 + k * 3 + 1, none⟩ = some (.int .i64 (wh p.v)) from hcp 1 _ rfl) (by simp)) (hW.cell (show w2.cell? ⟨g2, o2 + k * 3 + 2, none⟩ = some (.int .u64 (wl p.v)) from hcp 2 _ rfl) (by simp))))
            have HPk := Lib.hid hp
            have hfit : fitV p.v b.step = true := decide_eq_true hpe.2.2.2
            have HFT := Lib.hid (fun W => rfits_calls p.v b.step (by have := hpe.2.2.2; unfold I128; omega) (by unfold I64; omega) W)
            rw [hfit] at HFT
            have e1 : decide (p.t < 0) = false := decide_eq_false (by omega)
            have e2 : p.t.tmod b.step = 0 := by rw [tmod_nn hpe.1]; exact hpe.2.2.1
            have e3 : (b.step == 0) = false := by simp; omega
            have hkI : (k : Int) < (l'.length : Int) := by omega
            have x0 := fun d os => rg_cell (HC1.out _ HUB.out).1 d os
            have x1 := fun d os => rg_cell (HC1.out _ HUB.out).2.1 d os
            have x2 := fun d os => rg_cell (HC1.out _ HUB.out).2.2 d os
            have x3 := fun d os => rg_cell (HC0.out _ (HU2.out.then HUB.out)).1 d os
            have x4 := fun d os => rg_cell (HC0.out _ (HU2.out.then HUB.out)).2 d os
            have hkm : l'.length - (k + 1) < l'.length - k := by omega
            clear hp hcp hfit
            by_cases hk0 : k = 0
            · have d6 : decide (0 < k) = false := decide_eq_false (by omega)
              clear hk0
              go_wp2_with fail
              refine wp_region_quiet_below (by kernel_rfl) (by kernel_rfl) ?_
              repeat (go_big_quiet_step ((go_at_call 18; exact rg_of (HFT.out _))))
              refine wpQuiet_nil ?_
              rintro _ ⟨⟨dq, osq⟩, rfl⟩
              clear x0 x1 x2 x3 x4 d6
              obtain ⟨W1, hW1⟩ : ∃ W1, W1 = grow (redrawn wb dq) osq := ⟨_, rfl⟩
              have HUC := Lib.hid (show Upd [] w2 W1 by rw [hW1]; exact HUB.out.then (rg_upd _ _ _))
              rw [← hW1]
              clear hW1
              go_wp2_with fail
              go_loopw [15] (fun jv wr => ∃ j : Nat, j ≤ k ∧ jv = .int .i64 (j : Int) ∧ Upd [] w2 wr) (fun jv _ => k - (intOf jv).toNat)
              case atStart => exact ⟨0, Nat.zero_le _, rfl, HUC.out⟩
              case round =>
                obtain ⟨j, hj, rfl, hU⟩ := hrel
                have HUJ := Lib.hid hU
                clear hU
                by_cases hjk : j < k
                · obtain ⟨q', hq'⟩ : ∃ q, l'[j]? = some q := ⟨l'[j], List.getElem?_eq_getElem (by omega)⟩
                  have hjI : (j : Int) < (k : Int) := by omega
                  have hjL : (j : Int) < (l'.length : Int) := by omega
                  have hqe := HPT.out.each q' (List.mem_of_getElem? hq')
                  have hap := apart_at HPT.out hjk hq' HPk.out
                  have hpl1 := place_nat hbb.1 hbb.2.2.1 hqe.1
                  have hpl2 := place_nat hbb.1 hbb.2.2.1 hpe.1
                  have t1 : q'.t.tdiv b.step = q'.t / b.step := Int.tdiv_eq_ediv_of_nonneg hqe.1
                  have t2 : p.t.tdiv b.step = p.t / b.step := Int.tdiv_eq_ediv_of_nonneg hpe.1
                  have dq1 := ediv_le' hqe.1 hbb.1
                  have dq2 := ediv_le' hpe.1 hbb.1
                  have t3 : IntKind.i64.wrap (q'.t / b.step) = q'.t / b.step := wrapI' (by unfold I64; omega)
                  have t4 : IntKind.i64.wrap (p.t / b.step) = p.t / b.step := wrapI' (by unfold I64; omega)
                  have t5 : (q'.t / b.step).tmod (b.n : Int) = (b.place q'.t : Int) := by rw [tmod_nn dq1.1, hpl1.1]
                  have t6 : (p.t / b.step).tmod (b.n : Int) = (b.place p.t : Int) := by rw [tmod_nn dq2.1, hpl2.1]
                  have t7 : (((b.place q'.t : Nat) : Int) == ((b.place p.t : Nat) : Int)) = false := by simp; omega
                  have t8 : (((b.n : Nat) : Int) == 0) = false := by simp; omega
                  obtain ⟨g3, o3, hA3, _, hcq⟩ := HROW.out.at_ hq'
                  injection hA3 with hA3
                  injection hA3 with hg3 ho3 _
                  subst hg3 ho3
                  have y0 := fun d os => rg_cell (HUJ.out.cell (show w2.cell? ⟨g2, o2 + j * 3, none⟩ = some (.int .i64 q'.t) by simpa using hcq 0 _ rfl) (by simp)) d os
                  have y1 := fun d os => rg_cell (HC1.out _ HUJ.out).1 d os
                  have y2 := fun d os => rg_cell (HC0.out _ (HU2.out.then HUJ.out)).1 d os
                  have y3 := fun d os => rg_cell (HC0.out _ (HU2.out.then HUJ.out)).2 d os
                  clear hq' hcq hqe hap hpl1 hpl2 dq1 dq2 e1 e2
                  go_wp2_with fail
                  refine wp_region_quiet_below (by kernel_rfl) (by kernel_rfl) ?_
                  repeat (go_big_quiet_step (fail))
                  refine wpQuiet_nil ?_
                  rintro _ ⟨⟨dq, osq⟩, rfl⟩
                  clear y0 y1 y2 y3 t1 t2 t3 t4 t5 t6
                  have HUK := Lib.hid (HUJ.out.then (rg_upd wr dq osq))
                  go_wp2
                  exact ⟨⟨j + 1, by omega, rfl, HUK.out⟩, by simp [intOf]; omega⟩
                · obtain rfl : j = k := by omega
                  go_wp2
                  exact ⟨⟨j + 1, by omega, rfl, HUJ.out⟩, by simp [intOf]; omega⟩
            · obtain ⟨k', hk'⟩ : ∃ k', k = k' + 1 := ⟨k - 1, by omega⟩
              obtain ⟨q, hq⟩ : ∃ q, l'[k']? = some q := ⟨l'[k']'(by omega), List.getElem?_eq_getElem _⟩
              have hri := rise_at HPT.out (by omega) hq HPk.out
              have d5 : decide (p.t ≤ q.t) = false := decide_eq_false (by omega)
              obtain ⟨g3, o3, hA3, _, hcq⟩ := HROW.out.at_ hq
              injection hA3 with hA3
              injection hA3 with hg3 ho3 _
              subst hg3 ho3
              have x5 := fun d os => rg_cell (HUB.out.cell (show w2.cell? ⟨g2, o2 + k' * 3, none⟩ = some (.int .i64 q.t) by simpa using hcq 0 _ rfl) (by simp)) d os
              have d6 : decide (0 < k) = true := decide_eq_true (by omega)
              have ek1 : wrap64 ((k : Int) - 1) = (k' : Int) := by rw [w64 (by unfold I64; omega)]; omega
              have ek2 : (k : Int) - 1 = (k' : Int) := by omega
              have hkI2 : (k' : Int) < (l'.length : Int) := by omega
              clear hq hcq hri hk' hk0
              go_wp2_with fail
              refine wp_region_quiet_below (by kernel_rfl) (by kernel_rfl) ?_
              repeat (go_big_quiet_step ((go_at_call 18; exact rg_of (HFT.out _))))
              refine wpQuiet_nil ?_
              rintro _ ⟨⟨dq, osq⟩, rfl⟩
              clear x0 x1 x2 x3 x4 x5 d5 d6 ek1 ek2
              obtain ⟨W1, hW1⟩ : ∃ W1, W1 = grow (redrawn wb dq) osq := ⟨_, rfl⟩
              have HUC := Lib.hid (show Upd [] w2 W1 by rw [hW1]; exact HUB.out.then (rg_upd _ _ _))
              rw [← hW1]
              clear hW1
              go_wp2_with fail
              go_loopw [15] (fun jv wr => ∃ j : Nat, j ≤ k ∧ jv = .int .i64 (j : Int) ∧ Upd [] w2 wr) (fun jv _ => k - (intOf jv).toNat)
              case atStart => exact ⟨0, Nat.zero_le _, rfl, HUC.out⟩
              case round =>
                obtain ⟨j, hj, rfl, hU⟩ := hrel
                have HUJ := Lib.hid hU
                clear hU
                by_cases hjk : j < k
                · obtain ⟨q', hq'⟩ : ∃ q, l'[j]? = some q := ⟨l'[j], List.getElem?_eq_getElem (by omega)⟩
                  have hjI : (j : Int) < (k : Int) := by omega
                  have hjL : (j : Int) < (l'.length : Int) := by omega
                  have hqe := HPT.out.each q' (List.mem_of_getElem? hq')
                  have hap := apart_at HPT.out hjk hq' HPk.out
                  have hpl1 := place_nat hbb.1 hbb.2.2.1 hqe.1
                  have hpl2 := place_nat hbb.1 hbb.2.2.1 hpe.1
                  have t1 : q'.t.tdiv b.step = q'.t / b.step := Int.tdiv_eq_ediv_of_nonneg hqe.1
                  have t2 : p.t.tdiv b.step = p.t / b.step := Int.tdiv_eq_ediv_of_nonneg hpe.1
                  have dq1 := ediv_le' hqe.1 hbb.1
                  have dq2 := ediv_le' hpe.1 hbb.1
                  have t3 : IntKind.i64.wrap (q'.t / b.step) = q'.t / b.step := wrapI' (by unfold I64; omega)
                  have t4 : IntKind.i64.wrap (p.t / b.step) = p.t / b.step := wrapI' (by unfold I64; omega)
                  have t5 : (q'.t / b.step).tmod (b.n : Int) = (b.place q'.t : Int) := by rw [tmod_nn dq1.1, hpl1.1]
                  have t6 : (p.t / b.step).tmod (b.n : Int) = (b.place p.t : Int) := by rw [tmod_nn dq2.1, hpl2.1]
                  have t7 : (((b.place q'.t : Nat) : Int) == ((b.place p.t : Nat) : Int)) = false := by simp; omega
                  have t8 : (((b.n : Nat) : Int) == 0) = false := by simp; omega
                  obtain ⟨g3, o3, hA3, _, hcq⟩ := HROW.out.at_ hq'
                  injection hA3 with hA3
                  injection hA3 with hg3 ho3 _
                  subst hg3 ho3
                  have y0 := fun d os => rg_cell (HUJ.out.cell (show w2.cell? ⟨g2, o2 + j * 3, none⟩ = some (.int .i64 q'.t) by simpa using hcq 0 _ rfl) (by simp)) d os
                  have y1 := fun d os => rg_cell (HC1.out _ HUJ.out).1 d os
                  have y2 := fun d os => rg_cell (HC0.out _ (HU2.out.then HUJ.out)).1 d os
                  have y3 := fun d os => rg_cell (HC0.out _ (HU2.out.then HUJ.out)).2 d os
                  clear hq' hcq hqe hap hpl1 hpl2 dq1 dq2 e1 e2
                  go_wp2_with fail
                  refine wp_region_quiet_below (by kernel_rfl) (by kernel_rfl) ?_
                  repeat (go_big_quiet_step (fail))
                  refine wpQuiet_nil ?_
                  rintro _ ⟨⟨dq, osq⟩, rfl⟩
                  clear y0 y1 y2 y3 t1 t2 t3 t4 t5 t6
                  have HUK := Lib.hid (HUJ.out.then (rg_upd wr dq osq))
                  go_wp2
                  exact ⟨⟨j + 1, by omega, rfl, HUK.out⟩, by simp [intOf]; omega⟩
                · obtain rfl : j = k := by omega
                  go_wp2
                  exact ⟨⟨j + 1, by omega, rfl, HUJ.out⟩, by simp [intOf]; omega⟩
          · obtain rfl : k = l'.length := by omega
            go_wp2
            exact ⟨⟨i + 1, by omega, rfl, HU2.out.then HUB.out⟩, by simp [intOf]; omega⟩
      · obtain rfl : i = l.length := by omega
        have hbl : f.bands.length = l.length := by rw [← HSP.out, List.length_map]
        have HP1 := Lib.hid (pointsF_out W.heap.size fb f bv Ls (l.length : Int) wa (HF.out.upd0 HUA.out) HFO.out (.inr (by omega)))
        have HP2 := Lib.hid (fun W' (hW : Upd [] wa W') => pointsF_out W.heap.size fb f bv Ls (-1) W' ((HF.out.upd0 HUA.out).upd0 hW) HFO.out (.inl (by omega)))
        go_wp2_with fail
        refine HP1.out.mono ?_
        rintro e w2 ⟨rfl, hU2⟩
        go_wp2_with fail
        refine (HP2.out _ hU2).mono ?_
        rintro e w3 ⟨rfl, hU3⟩
        go_wp2_with fail
        refine (alive_calls _).mono ?_
        rintro e w4 ⟨rfl, hU4⟩
        go_wp2
        go_ret
        exact ⟨rfl, HU1.out.then (HUA.out.then (hU2.then (hU3.then hU4)))⟩
  · have HMD := Lib.hid (lmade_no _ (· < W.heap.size) _ vs l m x ops W hr hs hc)
    have HRC := Lib.hid (fun w (hw : Upd [] W w) => rcre_no _ _ l m x w (hr.upd0 hw) hs hc)
    have hne : (creErr l m x != 0) = true := by simpa using hc
    generalize creErr l m x = r at *
    clear hr hs ho hok hm hx hc
    go_enter Try.func4, Try.ntmps4
    go_wp2_with fail
    refine HMD.out.mono ?_
    rintro e w1 ⟨rfl, hU1⟩
    have HU1 := Lib.hid hU1
    clear hU1
    go_wp2_with fail
    refine (HRC.out _ HU1.out).mono ?_
    rintro e w2 ⟨rfl, hU2⟩
    have HU2 := Lib.hid (HU1.out.then hU2)
    clear hU2
    go_wp2_with fail
    refine (alive_calls _).mono ?_
    rintro e w3 ⟨rfl, hU3⟩
    have HU3 := Lib.hid ((HU2.out.alloc (.cells #[.int .i64 0, .int .i64 0, .slice none 0 0, .slice none 0 0] 38)).then hU3)
    clear hU3
    go_wp2
    go_ret
    exact ⟨rfl, HU3.out⟩
end Go.Proofs.Ytdjpcinibgbglaa
