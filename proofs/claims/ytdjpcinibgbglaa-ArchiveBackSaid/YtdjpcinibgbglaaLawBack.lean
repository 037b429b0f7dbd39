/- The law ArchiveBack. -/
import Derived.Test.YtdjpcinibgbglaaBackH
set_option linter.unusedVariables false
set_option linter.unusedSimpArgs false
namespace Go.Proofs.Ytdjpcinibgbglaa
open Go.RowKit Go.Sort
set_option maxRecDepth 20000 in
set_option maxHeartbeats 4000000 in
theorem archiveBack_calls (c0 : List Value) (x0 : GT.den (.slice gSpec)) (c1 : List Value) (x1 : GT.den gI) (c2 : List Value) (x2 : GT.den gI) (c3 : List Value) (x3 : GT.den (.slice gOp)) (c4 : List Value) (x4 : GT.den gOp) (W : World) (h0 : Rd W (· < W.heap.size) (.slice gSpec) c0 x0) (h1 : Rd W (· < W.heap.size) gI c1 x1) (h2 : Rd W (· < W.heap.size) gI c2 x2) (h3 : Rd W (· < W.heap.size) (.slice gOp) c3 x3) (h4 : Rd W (· < W.heap.size) gOp c4 x4) :
    Calls Try.prog 11 #[GT.val (.slice gSpec) c0, GT.val gI c1, GT.val gI c2, GT.val (.slice gOp) c3, GT.val gOp c4] W fun e w' => e = .returned (.bool true) ∧ Upd [] W w' := by
  obtain ⟨v, rfl, hr, hs⟩ := spec_row h0
  obtain ⟨rfl, hm⟩ := open_i64 h1
  obtain ⟨rfl, hx⟩ := open_i64 h2
  obtain ⟨vs, rfl, ho, hok⟩ := op_row h3
  obtain ⟨rfl, hoo⟩ := open_opn h4
  show Calls Try.prog 11 #[v, .int .i64 x1, .int .i64 x2, vs, .agg (opC (toOp x4)).toArray] W _
  clear h0 h1 h2 h3 h4
  generalize x1 = m at *
  generalize x2 = x at *
  generalize x0.map toSpc = l at *
  generalize x3.map toOp = ops at *
  generalize toOp x4 = o at *
  obtain ⟨A, c, rfl, hc1, hc2, -⟩ := hr.shape
  have hB0 := HB.new W 73 (opC o)
  have hU0 := (Upd.refl [] W).alloc (.cells (opC o).toArray 73)
  have HBO := Lib.hid hB0
  have HU0 := Lib.hid hU0
  have HR := Lib.hid (hr.upd0 hU0)
  have HS := Lib.hid hs
  by_cases hc : creErr l m x = 0
  · have HMD := Lib.hid (lmade_ok _ _ _ vs l m x ops _ (hr.upd0 hU0) hs hc (ho.upd0 hU0) hok)
    have HRC := Lib.hid (fun w (hw : Upd [] _ w) => rcre_ok _ _ l m x w ((hr.upd0 hU0).upd0 hw) hs hc)
    have HSP := Lib.hid (show (ups (newF l m x) ops).bands.map Band.spc = l by rw [ups_spc, newF_spc (creErr_ok hc).1])
    have hl8 := check_len (creErr_ok hc).1
    obtain ⟨f, hf⟩ : ∃ f, f = ups (newF l m x) ops := ⟨_, rfl⟩
    rw [← hf] at HMD HSP
    have HOO := Lib.hid hoo
    clear hr hs hc ho hok hm hx hf hoo hB0 hU0
    go_enter Try.func11, Try.ntmps11
    go_wp2_with fail
    refine HMD.out.mono ?_
    rintro e w1 ⟨fb, bv, Ls, rfl, hfb, hF, hfo, hU1⟩
    have HF := Lib.hid hF
    have HFO := Lib.hid hfo
    have HU1 := Lib.hid hU1
    clear hF hfo hU1 HMD hfb
    go_wp2_with fail
    refine (HRC.out _ HU1.out).mono ?_
    rintro e w2 ⟨sv, hv, rfl, hs1, hs2, hU2⟩
    obtain ⟨A1, d1, rfl, _, _, _⟩ := own_shape hs1
    obtain ⟨A2, d2, rfl, _, _, _⟩ := own_shape hs2
    have hU2' := hU2.alloc (.cells #[.int .i64 m, .int .i64 x, .slice A1 l.length d1, .slice A2 l.length d2] 38)
    have HF2 := Lib.hid (HF.out.upd0 hU2')
    have HBC := Lib.hid (bytes_calls _ fb f bv Ls _ (HF.out.upd0 hU2') HFO.out)
    have HU2 := Lib.hid (HU1.out.then hU2')
    clear hU2 hU2' hs1 hs2 HF HRC
    generalize hw2b : w2.alloc (.cells #[.int .i64 m, .int .i64 x, .slice A1 l.length d1, .slice A2 l.length d2] 38) = w2b at *
    generalize hbs : (W.alloc (.cells (opC o).toArray 73)).heap.size = bs at *
    generalize hW0 : W.alloc (.cells (opC o).toArray 73) = W0 at *
    go_wp2_with fail
    have hbw := Nat.le_of_eq hbs.symm
    have hbw2 := Nat.le_of_eq hbs
    clear hw2b hW0 hbs
    refine HBC.out.mono ?_
    rintro e w3 ⟨vb, rfl, hrow, hU3⟩
    obtain ⟨B3, c3, rfl, _, _, _⟩ := hrow.shape
    have HF3 := Lib.hid (HF2.out.upd0 hU3)
    have HU3 := Lib.hid (HU2.out.then hU3)
    have HOP := Lib.hid (brow_open HFO.out hrow)
    clear hU3 hrow HF2 HBC
    go_wp2_with fail
    refine HOP.out.mono ?_
    rintro e w4 ⟨base2, fb2, bv2, Ls2, rfl, hb1, hb2, hG, hU4⟩
    have HG4 := Lib.hid hG
    have HF4 := Lib.hid (HF3.out.upd0 hU4)
    have HU4 := Lib.hid (HU3.out.then hU4)
    have HIC := Lib.hid (info_calls bs fb f bv Ls w4 HF4.out HFO.out)
    clear hU4 hG HOP
    go_wp2_with fail
    refine HIC.out.mono ?_
    rintro e w5 ⟨v5, rfl, h5, hU5⟩
    have HR5 := Lib.hid ((own_row (enc := spcC) (fun _ => rfl) (by decide) h5).2)
    have HU5 := Lib.hid hU5
    have HIC2 := Lib.hid (info_calls base2 fb2 f bv2 Ls2 w5 (HG4.out.upd0 hU5) HFO.out)
    clear hU5 h5 HIC
    go_wp2_with fail
    refine HIC2.out.mono ?_
    rintro e w6 ⟨v6, rfl, h6, hU6⟩
    have HSI := Lib.hid (sameInfo_true _ _ f.m f.xff v5 v6 _ w6 (HR5.out.upd0 hU6) ((own_row (enc := spcC) (fun _ => rfl) (by decide) h6).2))
    have HU6 := Lib.hid (HU5.out.then hU6)
    clear hU6 h6 HIC2 HR5 HU5
    go_wp2_with fail
    refine HSI.out.mono ?_
    rintro e w7 ⟨rfl, hU7⟩
    have hU47 := HU6.out.then hU7
    have HF7 := Lib.hid (HF4.out.upd0 hU47)
    have HG7 := Lib.hid (HG4.out.upd0 hU47)
    have HU7 := Lib.hid (HU4.out.then hU47)
    have HB7 := Lib.hid (HBO.out.upd HU7.out (by simp))
    obtain ⟨S, hS⟩ : ∃ S, S = muts Ls ++ muts Ls2 := ⟨_, rfl⟩
    have hn : W.heap.size ∉ S := by rw [hS, List.mem_append, not_or]; exact ⟨HF7.out.hb_ne HB7.out (by decide) (by decide), HG7.out.hb_ne HB7.out (by decide) (by decide)⟩
    have c1 := fun p : Wd S w7 => p.h.cell (HB7.out.cell (j := 1) rfl) hn
    have c2 := fun p : Wd S w7 => p.h.cell (HB7.out.cell (j := 2) rfl) hn
    have c3' := fun p : Wd S w7 => p.h.cell (HB7.out.cell (j := 3) rfl) hn
    have c6 := fun p : Wd S w7 => p.h.cell (HB7.out.cell (j := 6) rfl) hn
    have HS := Lib.hid hS
    clear hU7 hU47 HSI HU6 HF4 HG4 hS
    go_wp2_with fail
    refine mix_start (n := 13) 11 (fun w' => ∃ p : Wd S w7, w' = p.v) (by kernel_rfl) (by kernel_rfl) ?_
    refine mix_quiet [true, true, true, true, true, false, true, true, true, true, true] 3 rfl (by kernel_rfl) (by kernel_rfl) (by kernel_rfl) (by kernel_rfl) ⟨⟨_, (Upd.refl S w7).drew⟩, rfl⟩ ?_
    simp only [maskL]
    repeat (go_big_quiet_step (fail))
    refine wpQuiet_nil ?_
    clear c1 c2 c3' c6
    refine mix_one 5 (by kernel_rfl) (by kernel_rfl) rfl ?_
    intro K QF hK
    have hd := (Upd.refl [] w7).drew
    have HUP := Lib.hid (update_calls bs fb f bv Ls o.t o.v o.now w7.drew (HF7.out.upd0 hd) HFO.out (roll_ok HFO.out.m) HOO.out.2.2.1 (Nat.le_trans hbw HU7.out.size))
    have HUG := Lib.hid (fun w (h : FileAt w base2 fb2 f bv2 Ls2) => update_calls base2 fb2 f bv2 Ls2 o.t o.v o.now w h HFO.out (roll_ok HFO.out.m) HOO.out.2.2.1 (by have := h.hf.lt; omega))
    have HS1 := Lib.hid (show (f.update o.t o.v o.now).1.bands.map Band.spc = l by rw [update_spc, HSP.out])
    obtain ⟨r1, hr1⟩ : ∃ r1, r1 = (f.update o.t o.v o.now).2 := ⟨_, rfl⟩
    obtain ⟨f1, hf1⟩ : ∃ f1, f1 = (f.update o.t o.v o.now).1 := ⟨_, rfl⟩
    rw [← hr1, ← hf1] at HUP
    rw [← hf1] at HS1
    have HUG := Lib.hid (fun w h => by have := HUG.out w h; rwa [← hr1, ← hf1] at this)
    have HG7d := Lib.hid (HG7.out.upd0 hd)
    have HB1 := Lib.hid (And.intro hb1 hb2)
    clear hr1 hf1 hd hb1 hb2
    go_wp2_with fail
    refine HUP.out.mono ?_
    rintro e w8 ⟨rfl, hF8, hok8, hU8⟩
    have HOK1 := Lib.hid hok8
    have HF8 := Lib.hid hF8
    have HG8 := Lib.hid (HG7d.out.upd_lo hU8 (fun x hx => Nat.lt_of_lt_of_le (HF3.out.muts_lt x hx) HB1.out.1) (fun hx => by have := HF3.out.muts_lt _ hx; have := HB1.out.1; have := HB1.out.2; omega) (fun k L hL => HF7.out.hb_ne (HG7.out.band k L _ hL (List.getElem?_eq_getElem (by have := (List.getElem?_eq_some_iff.1 hL).1; have := HG7.out.len; omega))).hb (by decide) (by decide)))
    have HU8 := Lib.hid (((Upd.refl S w7).drew).trans hU8 (fun _ h => h) (fun i hi => .inl (by rw [HS.out]; simp [hi])))
    clear hF8 hok8 hU8 HUP HG7d HF7
    go_wp2_with fail
    refine hK _ _ ⟨⟨_, HU8.out⟩, rfl⟩ ?_
    clear hK K QF
    refine mix_tail (by kernel_rfl) (by kernel_rfl) ?_
    simp only [List.drop_succ_cons, List.drop_zero]
    go_wp2_with fail
    refine (HUG.out _ HG8.out).mono ?_
    rintro e w9 ⟨rfl, hG9, _, hU9⟩
    have HG9 := Lib.hid hG9
    have HF9 := Lib.hid (HF3.out.upd_hi HF8.out HFO.out.ne hU9 (fun x hx => Nat.le_trans HB1.out.1 (HG7.out.up x hx)))
    have HU9 := Lib.hid (show Upd [] W w9 from HU0.out.then (HU7.out.trans (HU8.out.trans hU9 (fun _ h => h) (fun i hi => .inl (by rw [HS.out]; simp [hi]))) (fun _ h => h) (fun i hi => .inr (by
      rw [HS.out, List.mem_append] at hi
      rcases hi with hi | hi
      · have := HF3.out.up i hi; omega
      · have := HG7.out.up i hi; have := HB1.out.1; have := HF3.out.hf.lt; have := HU3.out.size; omega))))
    have HB9 := Lib.hid (HB7.out.upd (HU8.out.trans hU9 (fun _ h => h) (fun i hi => .inl (by rw [HS.out]; simp [hi]))) hn)
    have hlen : f1.bands.length = l.length := by rw [← HS1.out, List.length_map]
    clear hG9 hU9 HU8 HG8 HF8 HF3 HG7 HU7 HU3 HU4 HU2 HS HUG hn hbw hbw2 HB1 HB7
    go_wp2_with fail
    go_loopw [17] (fun iv wr => ∃ i : Int, -1 ≤ i ∧ i ≤ (l.length : Int) + 1 ∧ iv = .int .i64 i ∧ Upd [] w9 wr) (fun iv _ => ((l.length : Int) + 1 - intOf iv).toNat)
    case atStart => exact ⟨-1, by omega, by omega, rfl, Upd.refl _ _⟩
    case round =>
      obtain ⟨i, hi1, hi2, rfl, hU⟩ := hrel
      have HU := Lib.hid hU
      clear hU
      by_cases hlt : i ≤ (l.length : Int)
      · have dl : decide (i ≤ (l.length : Int)) = true := decide_eq_true hlt
        have ew : wrap64 (i + 1) = i + 1 := w64 (by unfold I64; omega)
        have hms : ((l.length : Int) + 1 - (i + 1)).toNat < ((l.length : Int) + 1 - i).toNat := by omega
        by_cases hin : 0 ≤ i ∧ i < (l.length : Int)
        · obtain ⟨k, rfl⟩ : ∃ k : Nat, i = (k : Int) := ⟨i.toNat, by omega⟩
          obtain ⟨b, hb⟩ : ∃ b, f1.bands[k]? = some b := ⟨_, List.getElem?_eq_getElem (by omega)⟩
          have HPF := Lib.hid (pointsF_in bs fb f1 bv Ls k b wr (HF9.out.upd0 HU.out) HOK1.out hb)
          have HPG := Lib.hid (fun w (hw : Upd [] wr w) => pointsF_in base2 fb2 f1 bv2 Ls2 k b w (HG9.out.upd0 (HU.out.then hw)) HOK1.out hb)
          have HBOK := Lib.hid (HOK1.out.bands b (List.mem_of_getElem? hb))
          clear hb hin
          go_wp2_with fail
          refine HPF.out.mono ?_
          rintro e wa ⟨va, la, rfl, hp1, hs1, ho1, hUa⟩
          obtain rfl := pts_uniq HBOK.out hp1 hs1
          have HRA := Lib.hid ((own_row ptR_len (by decide) ho1).2)
          have HUa := Lib.hid hUa
          clear hp1 hs1 ho1 hUa HPF
          go_wp2_with fail
          refine (HPG.out _ HUa.out).mono ?_
          rintro e wb ⟨vb', lb, rfl, hp1, hs1, ho1, hUb⟩
          obtain rfl := pts_uniq HBOK.out hp1 hs1
          have HSP' := Lib.hid (samePts_true _ _ va vb' _ wb (HRA.out.upd0 hUb) ((own_row ptR_len (by decide) ho1).2))
          have HUb := Lib.hid (HU.out.then (HUa.out.then hUb))
          clear hp1 hs1 ho1 hUb HPG HUa
          go_wp2_with fail
          refine HSP'.out.mono ?_
          rintro e wc ⟨rfl, hUc⟩
          have HUc := Lib.hid (HUb.out.then hUc)
          clear hUc HSP'
          go_wp2
          exact ⟨⟨(k : Int) + 1, by omega, by omega, by first | rfl | rw [ew], HUc.out⟩, by simp only [intOf]; first | exact hms | (rw [ew]; exact hms)⟩
        · have hout : i < 0 ∨ (f1.bands.length : Int) ≤ i := by rw [hlen]; omega
          have HPF := Lib.hid (pointsF_out bs fb f1 bv Ls i wr (HF9.out.upd0 HU.out) HOK1.out hout)
          have HPG := Lib.hid (fun w (hw : Upd [] wr w) => pointsF_out base2 fb2 f1 bv2 Ls2 i w (HG9.out.upd0 (HU.out.then hw)) HOK1.out hout)
          clear hin hout
          go_wp2_with fail
          refine HPF.out.mono ?_
          rintro e wa ⟨rfl, hUa⟩
          have HUa := Lib.hid hUa
          clear hUa HPF
          go_wp2_with fail
          refine (HPG.out _ HUa.out).mono ?_
          rintro e wb ⟨rfl, hUb⟩
          have HUb := Lib.hid (HU.out.then (HUa.out.then hUb))
          have HSP' := Lib.hid (samePts_true (fun _ => True) (fun _ => True) (.slice none 0 0) (.slice none 0 0) [] wb (RowK.nil _ _ _ _) (RowK.nil _ _ _ _))
          clear hUb HPG HUa
          go_wp2_with fail
          refine HSP'.out.mono ?_
          rintro e wc ⟨rfl, hUc⟩
          have HUc := Lib.hid (HUb.out.then hUc)
          clear hUc HSP'
          go_wp2
          exact ⟨⟨i + 1, by omega, by omega, by first | rfl | rw [ew], HUc.out⟩, by simp only [intOf]; first | exact hms | (rw [ew]; exact hms)⟩
      · have dl : decide (i ≤ (l.length : Int)) = false := decide_eq_false hlt
        have HUT := Lib.hid (HU9.out.then HU.out)
        have HF10 := Lib.hid (HF9.out.upd0 HU.out)
        have HG10 := Lib.hid (HG9.out.upd0 HU.out)
        have HB10 := Lib.hid (HB9.out.upd HU.out (by simp))
        clear HU9 HF9 HG9 HB9 HU hlt
        generalize wr = w10 at *
        have z2 := HB10.out.cell (j := 4) rfl
        have z3 := HB10.out.cell (j := 5) rfl
        have z4 := HB10.out.cell (j := 6) rfl
        have HFA := Lib.hid (fetch_all bs fb f1 bv Ls o.a o.b o.now w10 HF10.out HOK1.out)
        obtain ⟨so, hso⟩ : ∃ so, so = (fetchP f1 o.a o.b o.now).1 := ⟨_, rfl⟩
        obtain ⟨er, her⟩ : ∃ er, er = (fetchP f1 o.a o.b o.now).2 := ⟨_, rfl⟩
        have HFB := Lib.hid (fun w h => fetch_all base2 fb2 f1 bv2 Ls2 o.a o.b o.now w h HOK1.out)
        rw [← hso, ← her] at HFA
        have HFB := Lib.hid (fun w h => by have := HFB.out w h; rwa [← hso, ← her] at this)
        clear hso her
        go_wp2_with fail
        refine HFA.out.mono ?_
        rintro e w11 ⟨va, rfl, hsa, hU11⟩
        obtain ⟨sa, rfl, hra⟩ := ser_shape hsa
        obtain ⟨Aa, ca, rfl, _, _, _⟩ := hra.shape
        have hXA := hU11.alloc (.cells #[.string .empty, .int .i64 (serF so), .int .i64 (serT so), .slice Aa (serL so).length ca] 66)
        have HRA := Lib.hid (hra.upd0 ((Upd.refl [] w11).alloc (.cells #[.string .empty, .int .i64 (serF so), .int .i64 (serT so), .slice Aa (serL so).length ca] 66)))
        have HBA := Lib.hid (HB.new w11 66 [.string .empty, .int .i64 (serF so), .int .i64 (serT so), .slice Aa (serL so).length ca])
        have HB11 := Lib.hid (HB10.out.upd hXA (by simp))
        have HXA := Lib.hid hXA
        clear z2 z3 z4 hsa hU11 hra HFA hXA
        have z2 := HB11.out.cell (j := 4) rfl
        have z3 := HB11.out.cell (j := 5) rfl
        have z4 := HB11.out.cell (j := 6) rfl
        go_wp2_with fail
        refine (HFB.out _ (HG10.out.upd0 HXA.out)).mono ?_
        rintro e w12 ⟨vb', rfl, hsb, hU12⟩
        obtain ⟨sb, rfl, hrb⟩ := ser_shape hsb
        obtain ⟨Ab, cb', rfl, _, _, _⟩ := hrb.shape
        have hXB := hU12.alloc (.cells #[.string .empty, .int .i64 (serF so), .int .i64 (serT so), .slice Ab (serL so).length cb'] 66)
        have HRB := Lib.hid (hrb.upd0 ((Upd.refl [] w12).alloc (.cells #[.string .empty, .int .i64 (serF so), .int .i64 (serT so), .slice Ab (serL so).length cb'] 66)))
        have HBB := Lib.hid (HB.new w12 66 [.string .empty, .int .i64 (serF so), .int .i64 (serT so), .slice Ab (serL so).length cb'])
        have HBA2 := Lib.hid (HBA.out.upd hXB (by simp))
        have HRA2 := Lib.hid (HRA.out.upd0 hXB)
        have HX12 := Lib.hid (HXA.out.then hXB)
        clear z2 z3 z4 hsb hU12 hrb HFB hXB HXA HBA HRA HB10 HB11
        go_wp2_with fail
        generalize w12.alloc (.cells #[.string .empty, .int .i64 (serF so), .int .i64 (serT so), .slice Ab (serL so).length cb'] 66) = w13 at *
        have HF13 := Lib.hid (HF10.out.upd0 HX12.out)
        have HG13 := Lib.hid (HG10.out.upd0 HX12.out)
        have HU13 := Lib.hid (HUT.out.then HX12.out)
        have a0 := fun p : Wd [] w13 => p.h.cell (HBA2.out.cell (j := 0) rfl) (by simp)
        have a1 := fun p : Wd [] w13 => p.h.cell (HBA2.out.cell (j := 1) rfl) (by simp)
        have a2 := fun p : Wd [] w13 => p.h.cell (HBA2.out.cell (j := 2) rfl) (by simp)
        have a3 := fun p : Wd [] w13 => p.h.cell (HBA2.out.cell (j := 3) rfl) (by simp)
        have b0 := fun p : Wd [] w13 => p.h.cell (HBB.out.cell (j := 0) rfl) (by simp)
        have b1 := fun p : Wd [] w13 => p.h.cell (HBB.out.cell (j := 1) rfl) (by simp)
        have b2 := fun p : Wd [] w13 => p.h.cell (HBB.out.cell (j := 2) rfl) (by simp)
        have b3 := fun p : Wd [] w13 => p.h.cell (HBB.out.cell (j := 3) rfl) (by simp)
        have hlb : 0 < f1.bytes.length := by have := bytes_len14 f1; omega
        obtain ⟨S0, hS0⟩ : ∃ S0, S0 = strOfNums f1.bytes := ⟨_, rfl⟩
        have HS0 := Lib.hid hS0
        clear hS0 HF10 HG10 HUT HX12
        refine mix_start (n := 21) 15 (fun w' => ∃ p : Wd [] w13, w' = p.v) (by kernel_rfl) (by kernel_rfl) ?_
        refine mix_quiet [true, true] 19 rfl (by kernel_rfl) (by kernel_rfl) (by kernel_rfl) (by kernel_rfl) ⟨⟨_, (Upd.refl [] w13).drew⟩, rfl⟩ ?_
        simp only [maskL]
        repeat (go_big_quiet_step (fail))
        refine wpQuiet_nil ?_
        clear a0 a1 a2 a3 b0 b1 b2 b3
        have hd := (Upd.refl [] w13).drew
        have HSS := Lib.hid (sameSeries_true _ _ (serF so) (serT so) _ _ (serL so) w13.drew (HRA2.out.upd0 hd) (HRB.out.upd0 hd))
        clear hd
        refine mix_one 2 (by kernel_rfl) (by kernel_rfl) rfl ?_
        intro K QF hK
        go_wp2_with fail
        refine HSS.out.mono ?_
        rintro e w14 ⟨rfl, hU14⟩
        have HU14 := Lib.hid (((Upd.refl [] w13).drew).then hU14)
        have HBF := Lib.hid (bytes_calls bs fb f1 bv Ls w14 (HF13.out.upd0 HU14.out) HOK1.out)
        clear hU14 HSS
        go_wp2_with fail
        refine hK _ _ ⟨⟨_, HU14.out⟩, rfl⟩ ?_
        clear hK K QF
        refine mix_quiet [false, false, false, true, true, true, true, true, true, true, false, false, true] 10 rfl (by kernel_rfl) (by kernel_rfl) (by kernel_rfl) (by kernel_rfl) ⟨⟨_, HU14.out⟩, rfl⟩ ?_
        simp only [maskL]
        repeat (go_big_quiet_step (fail))
        refine wpQuiet_nil ?_
        refine mix_one 10 (by kernel_rfl) (by kernel_rfl) rfl ?_
        intro K QF hK
        go_wp2_with fail
        refine HBF.out.mono ?_
        rintro e w15 ⟨v15, rfl, hrow, hU15⟩
        obtain ⟨B15, c15, rfl, _, _, _⟩ := hrow.shape
        have HU15 := Lib.hid (HU14.out.then hU15)
        have hcv := fun p : Wd [] w15 => row_str ((hrow.upd0 p.h).row) hlb
        rw [← HS0.out] at hcv
        have HBG := Lib.hid (bytes_calls base2 fb2 f1 bv2 Ls2 w15 (HG13.out.upd0 HU15.out) HOK1.out)
        clear hU15 hrow HBF
        go_wp2_with fail
        refine hK _ _ ⟨⟨_, HU15.out⟩, rfl⟩ ?_
        clear hK K QF
        refine mix_sub (fun w' => ∃ p : Wd [] w15, w' = p.v) (wd_sub HU15.out (by simp)) ?_
        refine mix_quiet [false, false, false, false, false, false, false, false, false, false, false, true] 8 rfl (by kernel_rfl) (by kernel_rfl) (by kernel_rfl) (by kernel_rfl) ⟨⟨_, Upd.refl [] w15⟩, rfl⟩ ?_
        simp only [maskL]
        repeat (go_big_quiet_step (fail))
        refine wpQuiet_nil ?_
        clear hcv
        refine mix_one 13 (by kernel_rfl) (by kernel_rfl) rfl ?_
        intro K QF hK
        go_wp2_with fail
        refine HBG.out.mono ?_
        rintro e w16 ⟨v16, rfl, hrow, hU16⟩
        obtain ⟨B16, c16, rfl, _, _, _⟩ := hrow.shape
        have HU16 := Lib.hid hU16
        have hcv := fun p : Wd [] w16 => row_str ((hrow.upd0 p.h).row) hlb
        rw [← HS0.out] at hcv
        clear hU16 hrow HBG
        go_wp2_with fail
        refine hK _ _ ⟨⟨_, HU16.out⟩, rfl⟩ ?_
        clear hK K QF
        refine mix_sub (fun w' => ∃ p : Wd [] w16, w' = p.v) (wd_sub HU16.out (by simp)) ?_
        refine mix_quiet [false, false, false, false, false, false, false, false, false, false, false, false, false, false, true] 6 rfl (by kernel_rfl) (by kernel_rfl) (by kernel_rfl) (by kernel_rfl) ⟨⟨_, Upd.refl [] w16⟩, rfl⟩ ?_
        simp only [maskL]
        repeat (go_big_quiet_step (fail))
        refine wpQuiet_nil ?_
        clear hcv
        refine mix_tail (by kernel_rfl) (by kernel_rfl) ?_
        simp only [List.drop_succ_cons, List.drop_zero]
        go_wp2_with fail
        refine (alive_calls _).mono ?_
        rintro e w17 ⟨rfl, hU17⟩
        have HU17 := Lib.hid (HU13.out.then (HU15.out.then (HU16.out.then hU17)))
        clear hU17
        go_wp2
        go_ret
        exact ⟨rfl, HU17.out⟩
  · have HMD := Lib.hid (lmade_no _ (· < W.heap.size) _ vs l m x ops _ (hr.upd0 hU0) hs hc)
    have HRC := Lib.hid (fun w (hw : Upd [] _ w) => rcre_no _ _ l m x w ((hr.upd0 hU0).upd0 hw) hs hc)
    have hne : (creErr l m x != 0) = true := by simpa using hc
    generalize creErr l m x = r at *
    clear hr hs ho hok hm hx hc hB0 hU0 hoo
    go_enter Try.func11, Try.ntmps11
    go_wp2_with fail
    refine HMD.out.mono ?_
    rintro e w1 ⟨rfl, hU1⟩
    have HU1 := Lib.hid hU1
    clear hU1
    go_wp2_with fail
    refine (HRC.out _ HU1.out).mono ?_
    rintro e w2 ⟨rfl, hU2⟩
    have HU2 := Lib.hid (HU0.out.then (HU1.out.then hU2))
    clear hU2
    go_wp2_with fail
    refine (alive_calls _).mono ?_
    rintro e w3 ⟨rfl, hU3⟩
    have HU3 := Lib.hid ((HU2.out.alloc (.cells #[.int .i64 0, .int .i64 0, .slice none 0 0, .slice none 0 0] 38)).then hU3)
    clear hU3
    go_wp2
    go_ret
    exact ⟨rfl, HU3.out⟩
end Go.Proofs.Ytdjpcinibgbglaa
