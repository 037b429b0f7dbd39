/- The law ArchiveSums. -/
import Derived.Test.YtdjpcinibgbglaaLawB
import Derived.Test.YtdjpcinibgbglaaRNum2
import Derived.Test.YtdjpcinibgbglaaBys
import Derived.Test.YtdjpcinibgbglaaAlive
import Derived.Test.YtdjpcinibgbglaaPoints
import Derived.Test.YtdjpcinibgbglaaSumsP
set_option linter.unusedVariables false
set_option linter.unusedSimpArgs false
namespace Go.Proofs.Ytdjpcinibgbglaa
open Go.RowKit Go.Sort
def gc (x : Int) : List Value := [.int .u16 x]
/-- What stands ahead of the file's own blocks is kept by what turns these alone. -/
theorem FileAt.old2 {w w' : World} {base fb : Nat} {f : Fl} {v : Value} {Ls : List Loc} (h : FileAt w base fb f v Ls) (hU : Upd (muts Ls) w w') {w0 : World} (h0 : Upd [] w0 w) (hb : w0.heap.size ≤ base) : Upd [] w0 w' :=
  h0.trans hU (fun _ h => h) (fun i hi => .inr (Nat.le_trans hb (h.up i hi)))
theorem chk_err : ∀ (l : List Spc) (i : Nat) (p : Option Spc), (chk i p l).2 = 0 ∨ (chk i p l).2 = 190
  | [], _, _ => .inl rfl
  | y :: l, i, p => by
    unfold chk
    split
    · exact .inr rfl
    · exact chk_err l _ _
theorem check_err (l : List Spc) : (check l).2 = 0 ∨ (check l).2 = 190 := by
  unfold check
  split
  · exact .inr rfl
  · exact chk_err l _ _
theorem gap_row {W : World} {F : Nat → Prop} {cs : List Value} {xs : List Int} (h : Rd W F (.slice (.int .u16)) cs xs) : ∃ v, cs = [v] ∧ RowK W F gc 1 v xs ∧ ∀ x ∈ xs, 0 ≤ x ∧ x ≤ 65535 := by
  obtain ⟨A, c, rfl, h1, h2, h3, h4⟩ := h
  have key : ∀ (i : Nat) (x : Int), xs[i]? = some x → (0 ≤ x ∧ x ≤ 65535) ∧ ∃ b o, A = some ⟨b, o, none⟩ ∧ F b ∧ ∀ j u, (gc x)[j]? = some u → W.cell? ⟨b, o + i * 1 + j, none⟩ = some u := by
    intro i x hx
    obtain ⟨b, o, ecs, r1, r2, r3, r4, r5⟩ := h4 i x hx
    obtain ⟨rfl, w⟩ := r5
    refine ⟨?_, b, o, r1, r2, r4⟩
    simp [Lit.wf, IntKind.min, IntKind.max, IntKind.bits, IntKind.signed] at w
    omega
  refine ⟨_, rfl, ⟨A, c, rfl, h1, h2, h3, fun i x hx => (key i x hx).2⟩, fun x hx => ?_⟩
  obtain ⟨i, hi, e⟩ := List.mem_iff_getElem.1 hx
  exact (key i x (by rw [List.getElem?_eq_getElem hi, e])).1
def toW (x : gWide.den) : Int := x.1 * 18446744073709551616 + x.2.1
theorem open_wide {W : World} {F : Nat → Prop} {cs : List Value} {x : gWide.den} (h : Rd W F gWide cs x) : cs = wc (toW x) ∧ I128 (toW x) := by
  obtain ⟨_, _, rfl, ⟨rfl, w2⟩, _, _, rfl, ⟨rfl, w3⟩, rfl⟩ := h
  have hw := wideHL (wf_I64 w2) (wf_U64 w3)
  refine ⟨?_, hw.2.2⟩
  unfold wc toW
  rw [hw.1, hw.2.1]
  rfl
theorem wide_row {W : World} {F : Nat → Prop} {cs : List Value} {xs : List gWide.den} (h : Rd W F (.slice gWide) cs xs) : ∃ v, cs = [v] ∧ RowK W F wc 2 v (xs.map toW) ∧ ∀ z ∈ xs.map toW, I128 z := by
  obtain ⟨A, c, rfl, h1, h2, h3, h4⟩ := h
  have key : ∀ (i : Nat) (x : gWide.den), xs[i]? = some x → I128 (toW x) ∧ ∃ b o, A = some ⟨b, o, none⟩ ∧ F b ∧ ∀ j u, (wc (toW x))[j]? = some u → W.cell? ⟨b, o + i * 2 + j, none⟩ = some u := by
    intro i x hx
    obtain ⟨b, o, ecs, r1, r2, r3, r4, r5⟩ := h4 i x hx
    obtain ⟨rfl, hk⟩ := open_wide r5
    exact ⟨hk, b, o, r1, r2, r4⟩
  refine ⟨_, rfl, ⟨A, c, by simp, by simpa using h1, h2, h3, fun i s hs => ?_⟩, fun s hs => ?_⟩
  · rw [List.getElem?_map, Option.map_eq_some_iff] at hs
    obtain ⟨x, hx, rfl⟩ := hs
    exact (key i x hx).2
  · obtain ⟨x, hx, rfl⟩ := List.mem_map.1 hs
    obtain ⟨i, hi, e⟩ := List.mem_iff_getElem.1 hx
    exact (key i x (by rw [List.getElem?_eq_getElem hi, e])).1
theorem open_spec {W : World} {F : Nat → Prop} {cs : List Value} {x : gSpec.den} (h : Rd W F gSpec cs x) : cs = spcC (toSpc x) ∧ I64S (toSpc x) := by
  obtain ⟨_, _, rfl, ⟨rfl, w1⟩, _, _, rfl, ⟨rfl, w2⟩, rfl⟩ := h
  exact ⟨rfl, wf_I64 w1, wf_I64 w2⟩
def WBlk (W7 W : World) (z : Int) (v : Value) : Prop := ∃ b, v = .pointer (some ⟨b, 0, none⟩) ∧ W7.heap.size ≤ b ∧ HB W b 47 (wc z)
theorem WBlk.upd0 {W7 W W' : World} {z : Int} {v : Value} (h : WBlk W7 W z v) (hU : Upd [] W W') : WBlk W7 W' z v := by
  obtain ⟨b, h1, h2, h3⟩ := h
  exact ⟨b, h1, h2, h3.upd hU (by simp)⟩
set_option maxRecDepth 20000 in
set_option maxHeartbeats 8000000 in
theorem archiveSums_calls (c0 : List Value) (x0 : GT.den gSpec) (c1 : List Value) (x1 : GT.den gSpec) (c2 : List Value) (x2 : GT.den (.slice (.int .u16))) (c3 : List Value) (x3 : GT.den (.slice gWide)) (W : World) (h0 : Rd W (· < W.heap.size) gSpec c0 x0) (h1 : Rd W (· < W.heap.size) gSpec c1 x1) (h2 : Rd W (· < W.heap.size) (.slice (.int .u16)) c2 x2) (h3 : Rd W (· < W.heap.size) (.slice gWide) c3 x3) (hgl : x2.length ≤ 140737488355328) :
    Calls Try.prog 5 #[GT.val gSpec c0, GT.val gSpec c1, GT.val (.slice (.int .u16)) c2, GT.val (.slice gWide) c3] W fun e w' => e = .returned (.bool true) ∧ Upd [] W w' := by
  obtain ⟨rfl, ha⟩ := open_spec h0
  obtain ⟨rfl, hb⟩ := open_spec h1
  obtain ⟨vg, rfl, hg, hgb⟩ := gap_row h2
  obtain ⟨vw, rfl, hw, hwb⟩ := wide_row h3
  show Calls Try.prog 5 #[.agg #[.int .i64 (toSpc x0).1, .int .i64 (toSpc x0).2], .agg #[.int .i64 (toSpc x1).1, .int .i64 (toSpc x1).2], vg, vw] W _
  clear h0 h1 h2 h3
  generalize toSpc x0 = a at *
  generalize toSpc x1 = b at *
  generalize x3.map toW = zs at *
  generalize hx2 : x2 = gs at *
  clear hx2
  obtain ⟨W0, hW0⟩ : ∃ W0, W0 = ((W.alloc (.cells #[.int .i64 a.1, .int .i64 a.2] 44)).alloc (.cells #[.int .i64 b.1, .int .i64 b.2] 44)).alloc (.cells #[.int .i64 a.1, .int .i64 a.2, .int .i64 b.1, .int .i64 b.2] 44) := ⟨_, rfl⟩
  have HBA := Lib.hid (show HB W0 W.heap.size 44 [.int .i64 a.1, .int .i64 a.2] by rw [hW0]; exact ((HB.new W 44 [.int .i64 a.1, .int .i64 a.2]).alloc _).alloc _)
  have HBB := Lib.hid (show HB W0 (W.heap.size + 1) 44 [.int .i64 b.1, .int .i64 b.2] by rw [hW0]; exact (HB.new1 W _ 44 [.int .i64 b.1, .int .i64 b.2]).alloc _)
  have HBL := Lib.hid (show HB W0 (W.heap.size + 1 + 1) 44 [.int .i64 a.1, .int .i64 a.2, .int .i64 b.1, .int .i64 b.2] by
    rw [hW0]
    have h := HB.new1 (W.alloc (.cells #[.int .i64 a.1, .int .i64 a.2] 44)) (.cells #[.int .i64 b.1, .int .i64 b.2] 44) 44 [.int .i64 a.1, .int .i64 a.2, .int .i64 b.1, .int .i64 b.2]
    rwa [show (W.alloc (.cells #[.int .i64 a.1, .int .i64 a.2] 44)).heap.size = W.heap.size + 1 by simp] at h)
  have HU0 := Lib.hid (show Upd [] W W0 by rw [hW0]; exact (((Upd.refl _ _).alloc _).alloc _).alloc _)
  have hrow : RowK W0 (· = W.heap.size + 1 + 1) spcC 2 (.slice (some ⟨W.heap.size + 1 + 1, 0, none⟩) 2 2) [a, b] := by
    refine ⟨_, 2, rfl, Nat.le_refl _, by unfold maxLen; decide, by simp, fun i s hs => ⟨_, 0, rfl, rfl, fun j u hj => ?_⟩⟩
    rcases i with _ | _ | i
    · simp at hs; subst hs
      rcases j with _ | _ | j
      · simp [spcC] at hj; subst hj; exact HBL.out.cell (j := 0) rfl
      · simp [spcC] at hj; subst hj; exact HBL.out.cell (j := 1) rfl
      · simp [spcC] at hj
    · simp at hs; subst hs
      rcases j with _ | _ | j
      · simp [spcC] at hj; subst hj; exact HBL.out.cell (j := 2) rfl
      · simp [spcC] at hj; subst hj; exact HBL.out.cell (j := 3) rfl
      · simp [spcC] at hj
    · simp at hs
  have hss : ∀ s ∈ [a, b], I64S s := by
    intro s hs
    simp at hs
    rcases hs with rfl | rfl <;> assumption
  have HRC := Lib.hid (fun w (hw : Upd [] W0 w) => rcheck_calls _ _ [a, b] w (hrow.upd0 hw) hss)
  have HG := Lib.hid (hg.upd0 HU0.out)
  have HW := Lib.hid (hw.upd0 HU0.out)
  have HGB := Lib.hid hgb
  have HWB := Lib.hid hwb
  obtain ⟨AG, cG, rfl, hg1, hg2, hg3⟩ := hg.shape
  obtain ⟨AW, cW, rfl, hw1, hw2, hw3⟩ := hw.shape
  have hlmg := Nat.le_trans hg1 (Nat.le_trans hg2 maxLen_le)
  have hlmw := Nat.le_trans hw1 (Nat.le_trans hw2 maxLen_le)
  clear hg hw hgb hwb hg1 hg2 hg3 hw1 hw2 hw3
  rcases check_err [a, b] with hc | hc
  · have HCR := Lib.hid (create_ok _ _ [a, b] 2 0 W0 hrow hss hc ⟨by decide, by decide⟩ ⟨by decide, by decide⟩)
    have HN := Lib.hid (newF_ok (l := [a, b]) (m := 2) (x := 0) hc ⟨by decide, by decide⟩ ⟨by decide, by decide⟩)
    have HFS := Lib.hid (fs_new hc)
    rw [hc] at HRC
    clear hrow hss ha hb hc
    go_enter Try.func5, Try.ntmps5
    go_wp2_with fail
    rw [← hW0]
    clear hW0
    refine HCR.out.mono ?_
    rintro e w1 ⟨fb, bv, Ls, rfl, hfb, hF, hU1⟩
    have HF := Lib.hid hF
    have HU1 := Lib.hid hU1
    clear hfb hF hU1 HCR
    go_wp2_with fail
    refine (HRC.out _ HU1.out).mono ?_
    rintro e w2 ⟨rfl, hU2⟩
    have HF2 := Lib.hid (HF.out.upd0 hU2)
    have HU2 := Lib.hid (HU1.out.then hU2)
    clear hU2
    go_wp2_with fail
    go_loopw [14, 15] (fun tv iv wr => ∃ (k : Nat) (T : Int) (f : Fl), k ≤ gs.length ∧ k ≤ zs.length ∧ iv = .int .i64 (k : Int) ∧ tv = .int .i64 T ∧ 0 ≤ T ∧ T ≤ 65535 * (k : Int) ∧ FileAt wr W0.heap.size fb f bv Ls ∧ f.ok ∧ FS f a b T ∧ Upd [] W0 wr) (fun _ iv _ => gs.length - (intOf iv).toNat)
    case atStart => exact ⟨0, 0, _, Nat.zero_le _, Nat.zero_le _, rfl, rfl, Int.le_refl _, by simp, HF2.out, HN.out, HFS.out, HU2.out⟩
    case round =>
      obtain ⟨k, T, f, hk, hkz, rfl, rfl, hT0, hT, hF, hfo, hfs, hU⟩ := hrel
      generalize wr = wa at *
      have HF := Lib.hid hF
      have HFO := Lib.hid hfo
      have HFS := Lib.hid hfs
      have HU := Lib.hid hU
      clear hF hfo hfs hU HF2 HN
      by_cases hlt : k < gs.length ∧ k < zs.length
      · obtain ⟨hl1, hl2⟩ := hlt
        obtain ⟨g, hgk⟩ : ∃ g, gs[k]? = some g := ⟨gs[k], List.getElem?_eq_getElem hl1⟩
        obtain ⟨z, hzk⟩ : ∃ z, zs[k]? = some z := ⟨zs[k], List.getElem?_eq_getElem hl2⟩
        have hgb := HGB.out g (List.mem_of_getElem? hgk)
        have hzb := HWB.out z (List.mem_of_getElem? hzk)
        obtain ⟨gg, og, rfl, _, hcg⟩ := HG.out.at_ hgk
        obtain ⟨gw, ow, rfl, _, hcw⟩ := HW.out.at_ hzk
        have y0 : wa.cell? ⟨gg, og + k, none⟩ = some (.int .u16 g) := HU.out.cell (by simpa using hcg 0 _ rfl) (by simp)
        have HCW := Lib.hid (show ∀ w, Upd [] W0 w → w.cell? ⟨gw, ow + k * 2, none⟩ = some (.int .i64 (wh z)) ∧ w.cell? ⟨gw, ow + k * 2 + 1, none⟩ = some (.int .u64 (wl z)) from fun w hw => ⟨hw.cell (by simpa using hcw 0 _ rfl) (by simp), hw.cell (hcw 1 _ rfl) (by simp)⟩)
        obtain ⟨y1, y2⟩ := HCW.out wa HU.out
        obtain ⟨T', hT'⟩ : ∃ T', T' = T + g := ⟨_, rfl⟩
        have hT0' : 0 ≤ T' := by omega
        have hTb' : T' ≤ 65535 * ((k : Int) + 1) := by omega
        have ew : wrap64 (T + g) = T' := by rw [w64 (by unfold I64; omega)]; exact hT'.symm
        have ew2 : T + g = T' := hT'.symm
        have HTT := Lib.hid (show T ≤ T' by omega)
        have hkI1 : (k : Int) < (gs.length : Int) := by omega
        have hkI2 : (k : Int) < (zs.length : Int) := by omega
        have hms : gs.length - (k + 1) < gs.length - k := by omega
        have HUP := Lib.hid (update_calls W0.heap.size fb f bv Ls T' z T' wa HF.out HFO.out (roll_ok HFO.out.m) hzb HU.out.size)
        have HFT := Lib.hid (fun W => rfits_calls z 1 hzb (by unfold I64; decide) W)
        have HFSN := Lib.hid (fun h => fs_step HFO.out HFS.out (v := z) HTT.out hT0 h)
        obtain ⟨e2, he2⟩ : ∃ e2, e2 = (f.update T' z T').2 := ⟨_, rfl⟩
        obtain ⟨f2, hf2⟩ : ∃ f2, f2 = (f.update T' z T').1 := ⟨_, rfl⟩
        rw [← he2, ← hf2] at HUP
        rw [← hf2] at HFSN
        have hcase : e2 = 0 ∨ (e2 = 1 ∧ fitV z 1 = false) ∨ (e2 = 1 ∧ fitV z 1 = true ∧ decide (T' ≤ 1099511627775) = false) := by
          by_cases hin : sec T' = true ∧ fitV z 1 = true
          · exact .inl (by rw [he2, upd_ok HFO.out hin.1 hin.2])
          · have e1 : e2 = 1 := by
              rw [he2]
              unfold Fl.update
              rw [if_pos]
              cases h1 : sec T' <;> cases h2 : fitV z 1 <;> simp_all
            cases h2 : fitV z 1 with
            | false => exact .inr (.inl ⟨e1, rfl⟩)
            | true =>
              refine .inr (.inr ⟨e1, rfl, decide_eq_false (fun hle => hin ⟨?_, h2⟩)⟩)
              simp [sec]; omega
        clear hgk hzk hcg hcw hT' he2 hf2
        go_wp2_with fail
        refine HUP.out.mono ?_
        rintro e w2 ⟨rfl, hF2, hok2, hU2⟩
        have HF2 := Lib.hid hF2
        have HK2 := Lib.hid hok2
        have HFS2 := Lib.hid (HFSN.out hok2)
        have HU2 := Lib.hid (HF.out.old2 hU2 HU.out (Nat.le_refl _))
        clear y0 y1 y2 ew ew2 hF2 hok2 hU2 HUP HFSN
        obtain ⟨y1, y2⟩ := HCW.out w2 HU2.out
        rcases hcase with rfl | ⟨rfl, h2⟩ | ⟨rfl, h2, h3⟩
        · go_wp2
          exact ⟨⟨k + 1, T', f2, hl1, hl2, rfl, rfl, hT0', by simpa using hTb', HF2.out, HK2.out, HFS2.out, HU2.out⟩, hms⟩
        · rw [h2] at HFT
          clear h2
          go_wp2_with fail
          refine (HFT.out _).mono ?_
          rintro e w3 ⟨rfl, hU3⟩
          have HF3 := Lib.hid (HF2.out.upd0 hU3)
          have HU3 := Lib.hid (HU2.out.then hU3)
          clear hU3 y1 y2
          go_wp2
          exact ⟨⟨k + 1, T', f2, hl1, hl2, rfl, rfl, hT0', by simpa using hTb', HF3.out, HK2.out, HFS2.out, HU3.out⟩, hms⟩
        · rw [h2] at HFT
          clear h2
          go_wp2_with fail
          refine (HFT.out _).mono ?_
          rintro e w3 ⟨rfl, hU3⟩
          have HF3 := Lib.hid (HF2.out.upd0 hU3)
          have HU3 := Lib.hid (HU2.out.then hU3)
          clear hU3 y1 y2
          go_wp2
          exact ⟨⟨k + 1, T', f2, hl1, hl2, rfl, rfl, hT0', by simpa using hTb', HF3.out, HK2.out, HFS2.out, HU3.out⟩, hms⟩
      · obtain ⟨A, B, hbd, eA, eB, hnil, hsums⟩ := fs_end HFO.out HFS.out
        have hp0 := pointsF_in W0.heap.size fb f bv Ls 0 A wa HF.out HFO.out (by rw [hbd]; rfl)
        rw [show ((0 : Nat) : Int) = 0 from rfl] at hp0
        have HP0 := Lib.hid hp0
        have HP1 := Lib.hid (show ∀ w, Upd [] wa w → Calls Try.prog 17 #[.pointer (some ⟨fb, 0, none⟩), .int .i64 1] w fun e w' => ∃ (v' : Value) (l' : List Pt), e = .returned v' ∧ l'.Perm (B.pl.filterMap id) ∧ l'.Pairwise (fun a c => a.t ≤ c.t) ∧ w'.ownsRow w.heap.size 49 3 v' l'.length (l'.flatMap ptR) ∧ Upd [] w w' from fun w hw => by
          have h := pointsF_in W0.heap.size fb f bv Ls 1 B w (HF.out.upd0 hw) HFO.out (by rw [hbd]; rfl)
          rw [show ((1 : Nat) : Int) = 1 from rfl] at h
          exact h)
        have hA := HFO.out.bands A (by rw [hbd]; simp)
        have hB := HFO.out.bands B (by rw [hbd]; simp)
        have HA := Lib.hid hA
        have HB9 := Lib.hid hB
        have HEA := Lib.hid (And.intro eA eB)
        have hn2 : ¬ (k < gs.length ∧ k < zs.length) := hlt
        have hd : (decide (k < gs.length) = false) ∨ (decide (k < gs.length) = true ∧ decide (k < zs.length) = false) := by
          by_cases q1 : k < gs.length
          · exact .inr ⟨decide_eq_true q1, decide_eq_false (fun q2 => hn2 ⟨q1, q2⟩)⟩
          · exact .inl (decide_eq_false q1)
        obtain ⟨P, hP⟩ : ∃ P, P = A.pts := ⟨_, rfl⟩
        obtain ⟨R, hR⟩ : ∃ R, R = B.pts := ⟨_, rfl⟩
        have HPE := Lib.hid hP
        have HRE := Lib.hid hR
        have HPO := Lib.hid (show PtsOk A P by rw [hP]; exact pts_ok2 hA)
        have HRO := Lib.hid (show PtsOk B R by rw [hR]; exact pts_ok2 hB)
        have HPB := Lib.hid (show ∀ (q : Pt → Bool) (k : Nat), I128 (((P.take k).filter q).map (·.v)).sum by rw [hP]; exact part_bd hA)
        have hAb := hA.b
        have hBb := hB.b
        have hra : A.step * (A.n : Int) = a.1 * a.2 ∧ A.step = a.1 ∧ B.step = b.1 := by rw [← eA, ← eB]; exact ⟨rfl, rfl, rfl⟩
        have HRB := Lib.hid (show 1 ≤ a.1 * a.2 ∧ a.1 * a.2 ≤ 1099511627775 ∧ 1 ≤ b.1 ∧ b.1 ≤ 1099511627775 ∧ P.length ≤ 4096 ∧ R.length ≤ 4096 by
          have h1 := hAb.2.2.2.2
          have h2 : reachS A.spc = a.1 * a.2 := hra.1
          have h3 := HPO.out.len
          have h4 := HRO.out.len
          rw [h2] at h1
          omega)
        rw [← hP] at hnil hsums
        rw [← hR] at hnil hsums
        have HNIL := Lib.hid hnil
        have HSUMS := Lib.hid hsums
        clear hbd eA eB hnil hsums hA hB hlt hn2 hp0 hP hR hAb hBb hra
        generalize hpa : W.heap.size = pa at *
        rcases hd with d1 | ⟨d1, d2⟩
        · go_wp2_with fail
          refine HP0.out.mono ?_
          rintro e w2 ⟨v0, l0, rfl, hp, hs, ho, hU2⟩
          obtain rfl := (pts_uniq HA.out hp hs).trans HPE.out.symm
          have HO0 := Lib.hid ho
          have HU2 := Lib.hid hU2
          clear hp hs ho hU2
          go_wp2_with fail
          refine (HP1.out _ HU2.out).mono ?_
          rintro e w3 ⟨v1, l1, rfl, hp, hs, ho, hU3⟩
          obtain rfl := (pts_uniq HB9.out hp hs).trans HRE.out.symm
          have hrp := ((own_row ptR_len (by decide) HO0.out).2).upd0 hU3
          have hrr := (own_row ptR_len (by decide) ho).2
          obtain ⟨AP, cP, rfl, hq1, hq2, _⟩ := hrp.shape
          obtain ⟨AR, cR, rfl, hq3, hq4, _⟩ := hrr.shape
          have HRP := Lib.hid hrp
          have HRR := Lib.hid hrr
          have HU3 := Lib.hid (HU.out.then (HU2.out.then hU3))
          clear hp hs ho hU3 hrp hrr hq1 hq2 hq3 hq4 HO0
          by_cases hPn : l0 = []
          · have hRn := HNIL.out hPn
            clear HSUMS HPO HRO HPB HRB HRP HRR HPE HRE HNIL
            subst hPn hRn
            go_wp2_with fail
            refine (alive_calls _).mono ?_
            rintro e w4 ⟨rfl, hU4⟩
            have HUF := Lib.hid (HU0.out.then (HU3.out.then hU4))
            clear hU4
            go_wp2
            go_ret
            exact ⟨rfl, HUF.out⟩
          · obtain ⟨hex, hall⟩ := HSUMS.out hPn
            obtain ⟨E, hE⟩ : ∃ E, E = (l0.getLast hPn).t := ⟨_, rfl⟩
            rw [← hE] at hex hall
            have hlen := List.length_pos_iff.2 hPn
            obtain ⟨q, hq⟩ : ∃ q, l0.length = q + 1 := ⟨l0.length - 1, by omega⟩
            have hlast : l0[q]? = some (l0.getLast hPn) := by
              rw [List.getLast_eq_getElem, List.getElem?_eq_getElem (by omega)]
              congr 2
              omega
            have hEb := HPO.out.each _ (List.mem_of_getElem? hlast)
            rw [← hE] at hEb
            obtain ⟨gp, op, rfl, _, hcp⟩ := HRP.out.at_ hlast
            have y0 : w3.cell? ⟨gp, op + q * 3, none⟩ = some (.int .i64 E) := by rw [hE]; simpa using hcp 0 _ rfl
            have hrb := HRB.out
            have eq1 : wrap64 ((l0.length : Int) - 1) = (q : Int) := by rw [w64 (by unfold I64; omega)]; omega
            have eq2 : (l0.length : Int) - 1 = (q : Int) := by omega
            have hqI : (q : Int) < (l0.length : Int) := by omega
            have dz : ((l0.length : Int) == 0) = false := by simp; exact hPn
            obtain ⟨K, hK⟩ : ∃ K, K = a.1 * a.2 := ⟨_, rfl⟩
            have em : IntKind.i64.wrap (a.1 * a.2) = K := by rw [hK]; exact wrapI' (by unfold I64; omega)
            have em2 : wrap64 (a.1 * a.2) = K := by rw [hK]; exact w64 (by unfold I64; omega)
            rw [← hK] at hex hall hrb
            have hEK : -1099511627775 ≤ E - K ∧ E - K ≤ 1099511627775 := by omega
            have es : IntKind.i64.wrap (E - K) = E - K := wrapI' (by unfold I64; omega)
            have es2 : wrap64 (E - K) = E - K := w64 (by unfold I64; omega)
            have HEX := Lib.hid hex
            have HALL := Lib.hid hall
            have HEB := Lib.hid hEb
            have HRB2 := Lib.hid hrb
            clear hex hall hE hlen hq hlast hEb hcp hK HSUMS HNIL HRB
            go_wp2_with fail
            clear y0 eq1 eq2 hqI dz
            go_loopw [19, 20] (fun nv iv wr => ∃ (i nn : Nat), i ≤ l1.length ∧ nn ≤ i ∧ iv = .int .i64 (i : Int) ∧ nv = .int .i64 (nn : Int) ∧ ((∃ x ∈ l1.take i, E - K < x.t) → 1 ≤ nn) ∧ Upd [] w3 wr) (fun _ iv _ => l1.length - (intOf iv).toNat)
            case atStart => exact ⟨0, 0, Nat.zero_le _, Nat.le_refl _, rfl, rfl, fun ⟨x, hx, _⟩ => by simp at hx, Upd.refl _ _⟩
            case round =>
              obtain ⟨i, nn, hi, hnn, rfl, rfl, hcnt, hU⟩ := hrel
              generalize wr = wb at *
              have HUB := Lib.hid hU
              have HCNT := Lib.hid hcnt
              clear hU hcnt
              by_cases hil : i < l1.length
              · obtain ⟨x, hx⟩ : ∃ x, l1[i]? = some x := ⟨l1[i], List.getElem?_eq_getElem hil⟩
                have hiI : (i : Int) < (l1.length : Int) := by omega
                have hms : l1.length - (i + 1) < l1.length - i := by omega
                have hxe := HRO.out.each x (List.mem_of_getElem? hx)
                obtain ⟨gr, og, rfl, _, hcr⟩ := HRR.out.at_ hx
                have y0 : wb.cell? ⟨gr, og + i * 3, none⟩ = some (.int .i64 x.t) := HUB.out.cell (by simpa using hcr 0 _ rfl) (by simp)
                have y1 : wb.cell? ⟨gr, og + i * 3 + 1, none⟩ = some (.int .i64 (wh x.v)) := HUB.out.cell (hcr 1 _ rfl) (by simp)
                have y2 : wb.cell? ⟨gr, og + i * 3 + 2, none⟩ = some (.int .u64 (wl x.v)) := HUB.out.cell (hcr 2 _ rfl) (by simp)
                have hxb := HB.new wb 49 (ptR x)
                have x0 := hxb.cell (j := 0) rfl
                have hal := (Upd.refl [] wb).alloc (.cells (ptR x).toArray 49)
                have HUX := Lib.hid (HU3.out.then (HUB.out.then hal))
                have HXB := Lib.hid hxb
                have HUBX := Lib.hid (HUB.out.then hal)
                have a0 := (HBA.out.upd HUX.out (by simp)).cell (j := 0) rfl
                have a1 := (HBA.out.upd HUX.out (by simp)).cell (j := 1) rfl
                have HXI := Lib.hid hx
                have HXE := Lib.hid hxe
                have HTK := Lib.hid (show l1.take (i + 1) = l1.take i ++ [x] by rw [List.take_add_one, hx]; rfl)
                clear hx hcr hxb hal hxe
                by_cases hsk : x.t ≤ E - K
                · have d3 : decide (x.t ≤ E - K) = true := decide_eq_true hsk
                  have HSK := Lib.hid hsk
                  clear hsk
                  go_wp2
                  exact ⟨⟨i + 1, nn, hil, by omega, rfl, rfl, fun ⟨y, hy, hy2⟩ => by
                    rw [HTK.out, List.mem_append, List.mem_singleton] at hy
                    rcases hy with hy | rfl
                    · exact HCNT.out ⟨y, hy, hy2⟩
                    · have := HSK.out; omega, HUBX.out⟩, hms⟩
                · have d3 : decide (x.t ≤ E - K) = false := decide_eq_false hsk
                  have HSUM := Lib.hid (HALL.out x (List.mem_of_getElem? HXI.out) (by omega))
                  clear hsk
                  go_wp2_with fail
                  refine (of_calls 0 (by unfold I64; decide) _).mono ?_
                  rintro e w5 ⟨rfl, hU5⟩
                  have HX5 := Lib.hid (HXB.out.upd hU5 (by simp))
                  have HU5 := Lib.hid (HUX.out.then hU5)
                  have HP5 := Lib.hid (HUBX.out.then hU5)
                  have hsz5 : wb.heap.size < w5.heap.size := (HXB.out.upd hU5 (by simp)).lt
                  have hsb := HB.new w5 47 (wc 0)
                  have HSB := Lib.hid hsb
                  have HU5A := Lib.hid ((Upd.refl [] w5).alloc (.cells (wc 0).toArray 47))
                  clear hU5 hsb y0 y1 y2 x0 a0 a1
                  go_wp2_with fail
                  obtain ⟨qx, hqx⟩ : ∃ qx : Pt → Bool, qx = fun p => decide (x.t ≤ p.t ∧ p.t < x.t + b.1) := ⟨_, rfl⟩
                  have HQX := Lib.hid hqx
                  rw [← hqx] at HSUM
                  clear hqx
                  go_loopw [23] (fun kv wr => ∃ (j3 : Nat), j3 ≤ l0.length ∧ kv = .int .i64 (j3 : Int) ∧ HB wr w5.heap.size 47 (wc (((l0.take j3).filter qx).map (·.v)).sum) ∧ Upd [] w5 wr) (fun kv _ => l0.length - (intOf kv).toNat)
                  case atStart => exact ⟨0, Nat.zero_le _, rfl, HSB.out, HU5A.out⟩
                  case round =>
                    obtain ⟨j3, hk, rfl, hS, hU⟩ := hrel
                    have HS := Lib.hid hS
                    have HUK := Lib.hid hU
                    clear hS hU
                    by_cases hkl : j3 < l0.length
                    · obtain ⟨p, hp⟩ : ∃ p, l0[j3]? = some p := ⟨l0[j3], List.getElem?_eq_getElem hkl⟩
                      have hkI : (j3 : Int) < (l0.length : Int) := by omega
                      have hmk : l0.length - (j3 + 1) < l0.length - j3 := by omega
                      obtain ⟨gp', op', hgo, _, hcp⟩ := HRP.out.at_ hp
                      injection hgo with hgo
                      injection hgo with hg' ho' _
                      subst hg' ho'
                      have HUPK := Lib.hid (HP5.out.then HUK.out)
                      have HCP := Lib.hid (show ∀ w, Upd [] wr w → w.cell? ⟨gp, op + j3 * 3, none⟩ = some (.int .i64 p.t) ∧ w.cell? ⟨gp, op + j3 * 3 + 1, none⟩ = some (.int .i64 (wh p.v)) ∧ w.cell? ⟨gp, op + j3 * 3 + 2, none⟩ = some (.int .u64 (wl p.v)) from fun w hw => ⟨(HUPK.out.then hw).cell (by simpa using hcp 0 _ rfl) (by simp), (HUPK.out.then hw).cell (hcp 1 _ rfl) (by simp), (HUPK.out.then hw).cell (hcp 2 _ rfl) (by simp)⟩)
                      have HFT := Lib.hid (filter_take hp qx)
                      have HPK := Lib.hid hp
                      have hpe := HPO.out.each p (List.mem_of_getElem? hp)
                      have hxe := HXE.out
                      have hrb := HRB2.out
                      have ewx : IntKind.i64.wrap (x.t + b.1) = x.t + b.1 := wrapI' (by unfold I64; omega)
                      have ewx2 : wrap64 (x.t + b.1) = x.t + b.1 := w64 (by unfold I64; omega)
                      have q0 := fun d os => rg_cell (HCP.out wr (Upd.refl _ _)).1 d os
                      have q1 := fun d os => rg_cell ((HX5.out.upd HUK.out (by simp)).cell (j := 0) rfl) d os
                      have q2 := fun d os => rg_cell ((HBB.out.upd (HU5.out.then HUK.out) (by simp)).cell (j := 0) rfl) d os
                      have hcs : (decide (x.t ≤ p.t) = false ∧ qx p = false) ∨ (decide (x.t ≤ p.t) = true ∧ decide (p.t < x.t + b.1) = false ∧ qx p = false) ∨ (decide (x.t ≤ p.t) = true ∧ decide (p.t < x.t + b.1) = true ∧ qx p = true) := by
                        rw [HQX.out]
                        by_cases g1 : x.t ≤ p.t
                        · by_cases g2 : p.t < x.t + b.1
                          · exact .inr (.inr ⟨decide_eq_true g1, decide_eq_true g2, decide_eq_true ⟨g1, g2⟩⟩)
                          · exact .inr (.inl ⟨decide_eq_true g1, decide_eq_false g2, decide_eq_false (fun h => g2 h.2)⟩)
                        · exact .inl ⟨decide_eq_false g1, decide_eq_false (fun h => g1 h.1)⟩
                      clear hp hcp hpe hxe hrb
                      rcases hcs with ⟨g1, g3⟩ | ⟨g1, g2, g3⟩ | ⟨g1, g2, g3⟩
                      · have HST := Lib.hid (show (((l0.take (j3 + 1)).filter qx).map (·.v)).sum = (((l0.take j3).filter qx).map (·.v)).sum by rw [HFT.out, g3]; simp)
                        clear g3
                        go_wp2_with fail
                        refine wp_region_quiet_below (by kernel_rfl) (by kernel_rfl) ?_
                        repeat (go_big_quiet_step (fail))
                        refine wpQuiet_nil ?_
                        rintro _ ⟨⟨dq, osq⟩, rfl⟩
                        clear q0 q1 q2
                        have HUN := Lib.hid (HUK.out.then (rg_upd wr dq osq))
                        have HSN := Lib.hid (HS.out.upd (rg_upd wr dq osq) (by simp))
                        go_wp2
                        exact ⟨⟨j3 + 1, hkl, rfl, by rw [HST.out]; exact HSN.out, HUN.out⟩, hmk⟩
                      · have HST := Lib.hid (show (((l0.take (j3 + 1)).filter qx).map (·.v)).sum = (((l0.take j3).filter qx).map (·.v)).sum by rw [HFT.out, g3]; simp)
                        clear g3
                        go_wp2_with fail
                        refine wp_region_quiet_below (by kernel_rfl) (by kernel_rfl) ?_
                        repeat (go_big_quiet_step (fail))
                        refine wpQuiet_nil ?_
                        rintro _ ⟨⟨dq, osq⟩, rfl⟩
                        clear q0 q1 q2
                        have HUN := Lib.hid (HUK.out.then (rg_upd wr dq osq))
                        have HSN := Lib.hid (HS.out.upd (rg_upd wr dq osq) (by simp))
                        go_wp2
                        exact ⟨⟨j3 + 1, hkl, rfl, by rw [HST.out]; exact HSN.out, HUN.out⟩, hmk⟩
                      · obtain ⟨S, hSv⟩ : ∃ S, S = (((l0.take j3).filter qx).map (·.v)).sum := ⟨_, rfl⟩
                        have HST := Lib.hid (show (((l0.take (j3 + 1)).filter qx).map (·.v)).sum = S + p.v by rw [HFT.out, g3, hSv]; simp)
                        have HSI := Lib.hid (show I128 S ∧ I128 p.v ∧ I128 (S + p.v) by
                          have i1 := HPB.out qx j3
                          have i2 := HPB.out qx (j3 + 1)
                          rw [← hSv] at i1
                          rw [HST.out] at i2
                          refine ⟨i1, ?_, i2⟩
                          have hpe := HPO.out.each p (List.mem_of_getElem? (show l0[j3]? = some p from HPK.out))
                          have hab := HA.out.b
                          unfold I128
                          omega)
                        rw [← hSv] at HS
                        clear g3 hSv
                        go_wp2_with fail
                        refine wp_region_quiet_below (by kernel_rfl) (by kernel_rfl) ?_
                        repeat (go_big_quiet_step (fail))
                        refine wpQuiet_nil ?_
                        rintro _ ⟨⟨dq, osq⟩, rfl⟩
                        clear q0 q1 q2 ewx ewx2
                        obtain ⟨W9, hW9⟩ : ∃ W9, W9 = grow (redrawn wr dq) osq := ⟨_, rfl⟩
                        have HUN := Lib.hid (show Upd [] wr W9 by rw [hW9]; exact rg_upd wr dq osq)
                        have HSN := Lib.hid (HS.out.upd HUN.out (by simp))
                        rw [← hW9]
                        clear hW9
                        go_wp2_with fail
                        have HADD := Lib.hid (fun W => add_calls S p.v HSI.out.1 HSI.out.2.1 W)
                        rw [wres_in HSI.out.2.2] at HADD
                        refine region_rel2 12 (by kernel_rfl) (by kernel_rfl) rfl (by kernel_rfl) (fun D aa W => ∃ x167 x168 x169 x170 x171 x172 x173 x166 x174 x175 x24 : Value, aa = { tmps := #[.agg #[.int .i64 a.1, .int .i64 a.2], .agg #[.int .i64 b.1, .int .i64 b.2], .slice AG (List.length gs) cG, .slice AW zs.length cW, .pointer (some ⟨pa, 0, none⟩), .pointer (some ⟨pa + 1, 0, none⟩), undef, undef, u8, .slice (some ⟨pa + 1 + 1, 0, none⟩) 2 2, .pointer (some ⟨fb, 0, none⟩), .int .i64 0, .int .i64 (check [a, b]).1, .int .i64 0, .int .i64 T, .int .i64 k, .slice (some ⟨gp, op, none⟩) l0.length cP, .slice (some ⟨gr, og, none⟩) l1.length cR, .int .i64 E, .int .i64 nn, .int .i64 i, .pointer (some ⟨wb.heap.size, 0, none⟩), .pointer (some ⟨w5.heap.size, 0, none⟩), .int .i64 j3, x24, u25, .agg #[.int .i64 a.1, .int .i64 a.2], .agg #[.int .i64 b.1, .int .i64 b.2], .slice (some ⟨pa + 1 + 1, 0, none⟩) 2 2, .tuple #[.pointer (some ⟨fb, 0, none⟩), .int .i64 0], .slice (some ⟨pa + 1 + 1, 0, none⟩) 2 2, .tuple #[.pointer (some ⟨fb, 0, none⟩), .int .i64 0], .pointer (some ⟨fb, 0, none⟩), .int .i64 0, .tuple #[.int .i64 (check [a, b]).1, .int .i64 0], .slice (some ⟨pa + 1 + 1, 0, none⟩) 2 2, .tuple #[.int .i64 (check [a, b]).1, .int .i64 0], .int .i64 (check [a, b]).1, .int .i64 0, .pointer (some ⟨fb, 0, none⟩), .bool false, .bool false, .int .i64 0, .bool false, .bool false, undef, undef, undef, undef, undef, undef, undef, undef, undef, undef, undef, undef, undef, .int .i64 k, .slice AG (List.length gs) cG, .int .i64 (List.length gs), .bool false, .bool false, undef, undef, undef, undef, .bool false, u68, u69, u70, u71, u72, u73, u74, u75, u76, u77, u78, u79, u80, u81, u82, u83, u84, u85, u86, u87, u88, u89, u90, u91, u92, u93, u94, u95, u96, u97, .pointer (some ⟨fb, 0, none⟩), .slice (some ⟨gp, op, none⟩) l0.length cP, .pointer (some ⟨fb, 0, none⟩), .slice (some ⟨gr, og, none⟩) l1.length cR, .slice (some ⟨gp, op, none⟩) l0.length cP, .int .i64 l0.length, .bool false, undef, undef, undef, undef, undef, undef, .slice (some ⟨gp, op, none⟩) l0.length cP, .slice (some ⟨gp, op, none⟩) l0.length cP, .int .i64 l0.length, .int .i64 q, .pointer (some ⟨gp, op + q * 3, none⟩), .pointer (some ⟨gp, op + q * 3, none⟩), .int .i64 E, .int .i64 i, .slice (some ⟨gr, og, none⟩) l1.length cR, .int .i64 l1.length, .bool true, u122, u123, .slice (some ⟨gr, og, none⟩) l1.length cR, .int .i64 i, .pointer (some ⟨gr, og + i * 3, none⟩), .agg #[.int .i64 x.t, .int .i64 (wh x.v), .int .u64 (wl x.v)], .pointer (some ⟨wb.heap.size, 0, none⟩), .int .i64 x.t, .int .i64 E, .pointer (some ⟨pa, 0, none⟩), .int .i64 a.1, .pointer (some ⟨pa, 1, none⟩), .int .i64 a.2, .int .i64 K, .int .i64 (E - K), .bool false, wide 0, .int .i64 j3, .slice (some ⟨gp, op, none⟩) l0.length cP, .int .i64 l0.length, .bool true, u143, u144, .slice (some ⟨gp, op, none⟩) l0.length cP, .int .i64 j3, .pointer (some ⟨gp, op + j3 * 3, none⟩), .pointer (some ⟨gp, op + j3 * 3, none⟩), .int .i64 p.t, .pointer (some ⟨wb.heap.size, 0, none⟩), .int .i64 x.t, .bool true, .bool true, .slice (some ⟨gp, op, none⟩) l0.length cP, .int .i64 j3, .pointer (some ⟨gp, op + j3 * 3, none⟩), .pointer (some ⟨gp, op + j3 * 3, none⟩), .int .i64 p.t, .pointer (some ⟨wb.heap.size, 0, none⟩), .int .i64 x.t, .pointer (some ⟨pa + 1, 0, none⟩), .int .i64 b.1, .int .i64 (x.t + b.1), .bool true, .bool true, x166, x167, x168, x169, x170, x171, x172, x173, x174, x175, u176, u177, u178, u179, u180, u181, u182, u183, u184, undef, undef, undef, undef, undef], defers := [] } ∧ Upd [] W9 W ∧ (D 0 = true → x167 = .agg #[.int .i64 (wh S), .int .u64 (wl S)]) ∧ (D 1 = true → x168 = .slice (some ⟨gp, op, none⟩) l0.length cP) ∧ (D 2 = true → x169 = .int .i64 (j3 : Int)) ∧ (D 3 = true → x170 = .pointer (some ⟨gp, op + j3 * 3, none⟩)) ∧ (D 4 = true → x171 = .pointer (some ⟨gp, op + j3 * 3 + 1, none⟩)) ∧ (D 5 = true → x172 = .agg #[.int .i64 (wh p.v), .int .u64 (wl p.v)]) ∧ (D 6 = true → x173 = .tuple #[.agg #[.int .i64 (wh (S + p.v)), .int .u64 (wl (S + p.v))], .int .i64 0]) ∧ (D 7 = true → x166 = .tuple #[.agg #[.int .i64 (wh (S + p.v)), .int .u64 (wl (S + p.v))], .int .i64 0]) ∧ (D 8 = true → x174 = .agg #[.int .i64 (wh (S + p.v)), .int .u64 (wl (S + p.v))]) ∧ (D 9 = true → x175 = .int .i64 0) ∧ (D 10 = true → (D 11 = false → WBlk W9 W 0 x24)) ∧ (D 11 = true → WBlk W9 W (S + p.v) x24)) ⟨_, _, _, _, _, _, _, _, _, _, _, rfl, (Upd.refl _ _).drew, (fun h => by cases h), (fun h => by cases h), (fun h => by cases h), (fun h => by cases h), (fun h => by cases h), (fun h => by cases h), (fun h => by cases h), (fun h => by cases h), (fun h => by cases h), (fun h => by cases h), (fun h => by cases h), (fun h => by cases h)⟩ ?_ ?_
                        · rintro D aa W i o ⟨x167, x168, x169, x170, x171, x172, x173, x166, x174, x175, x24, rfl, hU, h0, h1, h2, h3, h4, h5, h6, h7, h8, h9, h10, h11⟩ hi ho hDi hdep hcl
                          match i with
                          | 0 =>
                            refine wpOp_via ho fun KK hK => ?_
                            have HK := Lib.hid hK
                            clear hK
                            obtain rfl := Option.some.inj ho
                            have HUW := Lib.hid hU
                            clear hU
                            have hs := HSN.out.upd HUW.out (by simp)
                            have s0 := hs.cell (j := 0) rfl
                            have s1 := hs.cell (j := 1) rfl
                            clear hs
                            go_wp2
                            exact HK.out _ _ ⟨_, _, _, _, _, _, _, _, _, _, _, rfl, HUW.out, (fun _ => rfl), (by simpa using h1), (by simpa using h2), (by simpa using h3), (by simpa using h4), (by simpa using h5), (by simpa using h6), (by simpa using h7), (by simpa using h8), (by simpa using h9), (fun h hd => h10 (by simpa using h) (by simpa using hd)), (fun h => h11 (by simpa using h))⟩
                          | 1 =>
                            refine wpOp_via ho fun KK hK => ?_
                            have HK := Lib.hid hK
                            clear hK
                            obtain rfl := Option.some.inj ho
                            have HUW := Lib.hid hU
                            clear hU
                            go_wp2
                            exact HK.out _ _ ⟨_, _, _, _, _, _, _, _, _, _, _, rfl, HUW.out, (by simpa using h0), (fun _ => rfl), (by simpa using h2), (by simpa using h3), (by simpa using h4), (by simpa using h5), (by simpa using h6), (by simpa using h7), (by simpa using h8), (by simpa using h9), (fun h hd => h10 (by simpa using h) (by simpa using hd)), (fun h => h11 (by simpa using h))⟩
                          | 2 =>
                            refine wpOp_via ho fun KK hK => ?_
                            have HK := Lib.hid hK
                            clear hK
                            obtain rfl := Option.some.inj ho
                            have HUW := Lib.hid hU
                            clear hU
                            go_wp2
                            exact HK.out _ _ ⟨_, _, _, _, _, _, _, _, _, _, _, rfl, HUW.out, (by simpa using h0), (by simpa using h1), (fun _ => rfl), (by simpa using h3), (by simpa using h4), (by simpa using h5), (by simpa using h6), (by simpa using h7), (by simpa using h8), (by simpa using h9), (fun h hd => h10 (by simpa using h) (by simpa using hd)), (fun h => h11 (by simpa using h))⟩
                          | 3 =>
                            refine wpOp_via ho fun KK hK => ?_
                            have HK := Lib.hid hK
                            clear hK
                            obtain rfl := Option.some.inj ho
                            obtain rfl := h1 (hdep ⟨1, .data⟩ (by simp) rfl)
                            obtain rfl := h2 (hdep ⟨2, .data⟩ (by simp) rfl)
                            have HUW := Lib.hid hU
                            clear hU
                            go_wp2
                            exact HK.out _ _ ⟨_, _, _, _, _, _, _, _, _, _, _, rfl, HUW.out, (by simpa using h0), (by simp), (by simp), (fun _ => rfl), (by simpa using h4), (by simpa using h5), (by simpa using h6), (by simpa using h7), (by simpa using h8), (by simpa using h9), (fun h hd => h10 (by simpa using h) (by simpa using hd)), (fun h => h11 (by simpa using h))⟩
                          | 4 =>
                            refine wpOp_via ho fun KK hK => ?_
                            have HK := Lib.hid hK
                            clear hK
                            obtain rfl := Option.some.inj ho
                            obtain rfl := h3 (hdep ⟨3, .data⟩ (by simp) rfl)
                            have HUW := Lib.hid hU
                            clear hU
                            go_wp2
                            exact HK.out _ _ ⟨_, _, _, _, _, _, _, _, _, _, _, rfl, HUW.out, (by simpa using h0), (by simpa using h1), (by simpa using h2), (by simp), (fun _ => rfl), (by simpa using h5), (by simpa using h6), (by simpa using h7), (by simpa using h8), (by simpa using h9), (fun h hd => h10 (by simpa using h) (by simpa using hd)), (fun h => h11 (by simpa using h))⟩
                          | 5 =>
                            refine wpOp_via ho fun KK hK => ?_
                            have HK := Lib.hid hK
                            clear hK
                            obtain rfl := Option.some.inj ho
                            obtain rfl := h4 (hdep ⟨4, .data⟩ (by simp) rfl)
                            have HUW := Lib.hid hU
                            clear hU
                            obtain ⟨_, r1', r2'⟩ := HCP.out _ (HUN.out.then HUW.out)
                            go_wp2
                            exact HK.out _ _ ⟨_, _, _, _, _, _, _, _, _, _, _, rfl, HUW.out, (by simpa using h0), (by simpa using h1), (by simpa using h2), (by simpa using h3), (by simp), (fun _ => rfl), (by simpa using h6), (by simpa using h7), (by simpa using h8), (by simpa using h9), (fun h hd => h10 (by simpa using h) (by simpa using hd)), (fun h => h11 (by simpa using h))⟩
                          | 6 =>
                            refine wpOp_via ho fun KK hK => ?_
                            have HK := Lib.hid hK
                            clear hK
                            obtain rfl := Option.some.inj ho
                            obtain rfl := h0 (hdep ⟨0, .data⟩ (by simp) rfl)
                            obtain rfl := h5 (hdep ⟨5, .data⟩ (by simp) rfl)
                            have HUW := Lib.hid hU
                            clear hU
                            go_wp2_with fail
                            refine (HADD.out _).mono ?_
                            rintro e w2 ⟨rfl, hU1⟩
                            go_wp2
                            exact HK.out _ _ ⟨_, _, _, _, _, _, _, _, _, _, _, rfl, HUW.out.then hU1, (by simp), (by simpa using h1), (by simpa using h2), (by simpa using h3), (by simpa using h4), (by simp), (fun _ => rfl), (by simpa using h7), (by simpa using h8), (by simpa using h9), (fun h hd => WBlk.upd0 (h10 (by simpa using h) (by simpa using hd)) hU1), (fun h => WBlk.upd0 (h11 (by simpa using h)) hU1)⟩
                          | 7 =>
                            refine wpOp_via ho fun KK hK => ?_
                            have HK := Lib.hid hK
                            clear hK
                            obtain rfl := Option.some.inj ho
                            obtain rfl := h6 (hdep ⟨6, .data⟩ (by simp) rfl)
                            have HUW := Lib.hid hU
                            clear hU
                            go_wp2
                            exact HK.out _ _ ⟨_, _, _, _, _, _, _, _, _, _, _, rfl, HUW.out, (by simpa using h0), (by simpa using h1), (by simpa using h2), (by simpa using h3), (by simpa using h4), (by simpa using h5), (by simp), (fun _ => rfl), (by simpa using h8), (by simpa using h9), (fun h hd => h10 (by simpa using h) (by simpa using hd)), (fun h => h11 (by simpa using h))⟩
                          | 8 =>
                            refine wpOp_via ho fun KK hK => ?_
                            have HK := Lib.hid hK
                            clear hK
                            obtain rfl := Option.some.inj ho
                            obtain rfl := h7 (hdep ⟨7, .data⟩ (by simp) rfl)
                            have HUW := Lib.hid hU
                            clear hU
                            go_wp2
                            exact HK.out _ _ ⟨_, _, _, _, _, _, _, _, _, _, _, rfl, HUW.out, (by simpa using h0), (by simpa using h1), (by simpa using h2), (by simpa using h3), (by simpa using h4), (by simpa using h5), (by simpa using h6), (by simp), (fun _ => rfl), (by simpa using h9), (fun h hd => h10 (by simpa using h) (by simpa using hd)), (fun h => absurd (hcl 11 _ rfl (by simpa using h) ⟨8, .data⟩ (by simp) rfl) (by rw [hDi]; simp))⟩
                          | 9 =>
                            refine wpOp_via ho fun KK hK => ?_
                            have HK := Lib.hid hK
                            clear hK
                            obtain rfl := Option.some.inj ho
                            obtain rfl := h7 (hdep ⟨7, .data⟩ (by simp) rfl)
                            have HUW := Lib.hid hU
                            clear hU
                            go_wp2
                            exact HK.out _ _ ⟨_, _, _, _, _, _, _, _, _, _, _, rfl, HUW.out, (by simpa using h0), (by simpa using h1), (by simpa using h2), (by simpa using h3), (by simpa using h4), (by simpa using h5), (by simpa using h6), (by simp), (by simpa using h8), (fun _ => rfl), (fun h hd => h10 (by simpa using h) (by simpa using hd)), (fun h => h11 (by simpa using h))⟩
                          | 10 =>
                            refine wpOp_via ho fun KK hK => ?_
                            have HK := Lib.hid hK
                            clear hK
                            obtain rfl := Option.some.inj ho
                            have HUW := Lib.hid hU
                            clear hU
                            have hx : WBlk W9 (W.alloc (.cells (wc 0).toArray 47)) 0 (.pointer (some ⟨W.heap.size, 0, none⟩)) := ⟨_, rfl, HUW.out.size, HB.new W _ _⟩
                            have hU1 := (Upd.refl [] W).alloc (.cells (wc 0).toArray 47)
                            go_wp2
                            exact HK.out _ _ ⟨_, _, _, _, _, _, _, _, _, _, _, rfl, HUW.out.then hU1, (by simpa using h0), (by simpa using h1), (by simpa using h2), (by simpa using h3), (by simpa using h4), (by simpa using h5), (by simpa using h6), (by simpa using h7), (by simpa using h8), (by simpa using h9), (fun _ _ => hx), (fun h => absurd (hcl 11 _ rfl (by simpa using h) ⟨10, .data⟩ (by simp) rfl) (by rw [hDi]; simp))⟩
                          | 11 =>
                            refine wpOp_via ho fun KK hK => ?_
                            have HK := Lib.hid hK
                            clear hK
                            obtain rfl := Option.some.inj ho
                            obtain rfl := h8 (hdep ⟨8, .data⟩ (by simp) rfl)
                            have r10 := h10 (hdep ⟨10, .data⟩ (by simp) rfl) hDi
                            have HUW := Lib.hid hU
                            clear hU
                            obtain ⟨b4, e1, hb1, hb2⟩ := r10
                            obtain rfl := e1
                            have hst := ((Upd.refl [b4] W).setCell (p := ⟨b4, 0, none⟩) (.inl (by simp)) (.int .i64 (wh (S + p.v)))).setCell (p := ⟨b4, 1, none⟩) (.inl (by simp)) (.int .u64 (wl (S + p.v)))
                            have hUF : Upd [] W9 _ := HUW.out.trans hst (fun _ h => h) (fun i hi => .inr (by simp at hi; subst hi; exact hb1))
                            have hx : WBlk W9 _ (S + p.v) (.pointer (some ⟨b4, 0, none⟩)) := ⟨b4, rfl, hb1, (hb2.set 0 (.int .i64 (wh (S + p.v)))).set 1 (.int .u64 (wl (S + p.v)))⟩
                            have z0 := hb2.cell (j := 0) rfl
                            have z1 := hb2.cell (j := 1) rfl
                            have zf0 := hb2.free 0
                            have zf1 := hb2.free 1
                            have HX := Lib.hid hx
                            have HUF := Lib.hid hUF
                            clear hx hUF hst hb2
                            go_wp2
                            have hx := HX.out
                            have hUF := HUF.out
                            exact HK.out _ _ ⟨_, _, _, _, _, _, _, _, _, _, _, rfl, hUF, (by simpa using h0), (by simpa using h1), (by simpa using h2), (by simpa using h3), (by simpa using h4), (by simpa using h5), (by simpa using h6), (by simpa using h7), (by simp), (by simpa using h9), (fun _ hd => by simp at hd), (fun _ => hx)⟩
                          | i + 12 => omega
                        · rintro D aa W o ⟨x167, x168, x169, x170, x171, x172, x173, x166, x174, x175, x24, rfl, hU, h0, h1, h2, h3, h4, h5, h6, h7, h8, h9, h10, h11⟩ hall ho
                          refine wpOp_of_list ho ?_
                          obtain rfl := Option.some.inj ho
                          obtain rfl := h0 (hall 0 (by omega))
                          obtain rfl := h1 (hall 1 (by omega))
                          obtain rfl := h2 (hall 2 (by omega))
                          obtain rfl := h3 (hall 3 (by omega))
                          obtain rfl := h4 (hall 4 (by omega))
                          obtain rfl := h5 (hall 5 (by omega))
                          obtain rfl := h6 (hall 6 (by omega))
                          obtain rfl := h7 (hall 7 (by omega))
                          obtain rfl := h8 (hall 8 (by omega))
                          obtain rfl := h9 (hall 9 (by omega))
                          have r10 := h10 (hall 10 (by omega))
                          have r11 := h11 (hall 11 (by omega))
                          obtain ⟨b4, e1, hb1, hb2⟩ := r11
                          obtain rfl := e1
                          have HUW := Lib.hid hU
                          have z0 := hb2.cell (j := 0) rfl
                          have z1 := hb2.cell (j := 1) rfl
                          have hs := HSN.out.upd hU (by simp)
                          have s0 := hs.cell (j := 0) rfl
                          have s1 := hs.cell (j := 1) rfl
                          have sf0 := hs.free 0
                          have sf1 := hs.free 1
                          have HS4 := Lib.hid hs
                          have HUZ := Lib.hid ((HUK.out.then (HUN.out.then hU)))
                          clear r10 hU hb2 hs
                          go_wp2
                          exact ⟨⟨j3 + 1, hkl, rfl, by rw [HST.out]; exact (HS4.out.set 0 (.int .i64 (wh (S + p.v)))).set 1 (.int .u64 (wl (S + p.v))), (HUZ.out.setCell (p := ⟨w5.heap.size, 0, none⟩) (.inr (Nat.le_refl _)) (.int .i64 (wh (S + p.v)))).setCell (p := ⟨w5.heap.size, 1, none⟩) (.inr (Nat.le_refl _)) (.int .u64 (wl (S + p.v)))⟩, hmk⟩
                    · obtain rfl : j3 = l0.length := by omega
                      have hfin : (((l0.take l0.length).filter qx).map (·.v)).sum = x.v := by rw [List.take_length]; exact HSUM.out.symm
                      have hS2 := HS.out
                      rw [hfin] at hS2
                      have s0 := hS2.cell (j := 0) rfl
                      have s1 := hS2.cell (j := 1) rfl
                      have x1 := (HX5.out.upd HUK.out (by simp)).cell (j := 1) rfl
                      have x2 := (HX5.out.upd HUK.out (by simp)).cell (j := 2) rfl
                      have HUE := Lib.hid (HP5.out.then HUK.out)
                      clear hfin hS2
                      go_wp2
                      exact ⟨⟨i + 1, nn + 1, hil, by omega, rfl, rfl, fun _ => by omega, HUE.out⟩, hms⟩
              · obtain rfl : i = l1.length := by omega
                have hpos : 1 ≤ nn := HCNT.out (by rw [List.take_length]; exact HEX.out)
                have d5 : decide (0 < nn) = true := decide_eq_true (by omega)
                clear hpos
                go_wp2_with fail
                refine (alive_calls _).mono ?_
                rintro e w4 ⟨rfl, hU4⟩
                have HUF := Lib.hid (HU0.out.then (HU3.out.then (HUB.out.then hU4)))
                clear hU4
                go_wp2
                go_ret
                exact ⟨rfl, HUF.out⟩
        · go_wp2_with fail
          refine HP0.out.mono ?_
          rintro e w2 ⟨v0, l0, rfl, hp, hs, ho, hU2⟩
          obtain rfl := (pts_uniq HA.out hp hs).trans HPE.out.symm
          have HO0 := Lib.hid ho
          have HU2 := Lib.hid hU2
          clear hp hs ho hU2
          go_wp2_with fail
          refine (HP1.out _ HU2.out).mono ?_
          rintro e w3 ⟨v1, l1, rfl, hp, hs, ho, hU3⟩
          obtain rfl := (pts_uniq HB9.out hp hs).trans HRE.out.symm
          have hrp := ((own_row ptR_len (by decide) HO0.out).2).upd0 hU3
          have hrr := (own_row ptR_len (by decide) ho).2
          obtain ⟨AP, cP, rfl, hq1, hq2, _⟩ := hrp.shape
          obtain ⟨AR, cR, rfl, hq3, hq4, _⟩ := hrr.shape
          have HRP := Lib.hid hrp
          have HRR := Lib.hid hrr
          have HU3 := Lib.hid (HU.out.then (HU2.out.then hU3))
          clear hp hs ho hU3 hrp hrr hq1 hq2 hq3 hq4 HO0
          by_cases hPn : l0 = []
          · have hRn := HNIL.out hPn
            clear HSUMS HPO HRO HPB HRB HRP HRR HPE HRE HNIL
            subst hPn hRn
            go_wp2_with fail
            refine (alive_calls _).mono ?_
            rintro e w4 ⟨rfl, hU4⟩
            have HUF := Lib.hid (HU0.out.then (HU3.out.then hU4))
            clear hU4
            go_wp2
            go_ret
            exact ⟨rfl, HUF.out⟩
          · obtain ⟨hex, hall⟩ := HSUMS.out hPn
            obtain ⟨E, hE⟩ : ∃ E, E = (l0.getLast hPn).t := ⟨_, rfl⟩
            rw [← hE] at hex hall
            have hlen := List.length_pos_iff.2 hPn
            obtain ⟨q, hq⟩ : ∃ q, l0.length = q + 1 := ⟨l0.length - 1, by omega⟩
            have hlast : l0[q]? = some (l0.getLast hPn) := by
              rw [List.getLast_eq_getElem, List.getElem?_eq_getElem (by omega)]
              congr 2
              omega
            have hEb := HPO.out.each _ (List.mem_of_getElem? hlast)
            rw [← hE] at hEb
            obtain ⟨gp, op, rfl, _, hcp⟩ := HRP.out.at_ hlast
            have y0 : w3.cell? ⟨gp, op + q * 3, none⟩ = some (.int .i64 E) := by rw [hE]; simpa using hcp 0 _ rfl
            have hrb := HRB.out
            have eq1 : wrap64 ((l0.length : Int) - 1) = (q : Int) := by rw [w64 (by unfold I64; omega)]; omega
            have eq2 : (l0.length : Int) - 1 = (q : Int) := by omega
            have hqI : (q : Int) < (l0.length : Int) := by omega
            have dz : ((l0.length : Int) == 0) = false := by simp; exact hPn
            obtain ⟨K, hK⟩ : ∃ K, K = a.1 * a.2 := ⟨_, rfl⟩
            have em : IntKind.i64.wrap (a.1 * a.2) = K := by rw [hK]; exact wrapI' (by unfold I64; omega)
            have em2 : wrap64 (a.1 * a.2) = K := by rw [hK]; exact w64 (by unfold I64; omega)
            rw [← hK] at hex hall hrb
            have hEK : -1099511627775 ≤ E - K ∧ E - K ≤ 1099511627775 := by omega
            have es : IntKind.i64.wrap (E - K) = E - K := wrapI' (by unfold I64; omega)
            have es2 : wrap64 (E - K) = E - K := w64 (by unfold I64; omega)
            have HEX := Lib.hid hex
            have HALL := Lib.hid hall
            have HEB := Lib.hid hEb
            have HRB2 := Lib.hid hrb
            clear hex hall hE hlen hq hlast hEb hcp hK HSUMS HNIL HRB
            go_wp2_with fail
            clear y0 eq1 eq2 hqI dz
            go_loopw [19, 20] (fun nv iv wr => ∃ (i nn : Nat), i ≤ l1.length ∧ nn ≤ i ∧ iv = .int .i64 (i : Int) ∧ nv = .int .i64 (nn : Int) ∧ ((∃ x ∈ l1.take i, E - K < x.t) → 1 ≤ nn) ∧ Upd [] w3 wr) (fun _ iv _ => l1.length - (intOf iv).toNat)
            case atStart => exact ⟨0, 0, Nat.zero_le _, Nat.le_refl _, rfl, rfl, fun ⟨x, hx, _⟩ => by simp at hx, Upd.refl _ _⟩
            case round =>
              obtain ⟨i, nn, hi, hnn, rfl, rfl, hcnt, hU⟩ := hrel
              generalize wr = wb at *
              have HUB := Lib.hid hU
              have HCNT := Lib.hid hcnt
              clear hU hcnt
              by_cases hil : i < l1.length
              · obtain ⟨x, hx⟩ : ∃ x, l1[i]? = some x := ⟨l1[i], List.getElem?_eq_getElem hil⟩
                have hiI : (i : Int) < (l1.length : Int) := by omega
                have hms : l1.length - (i + 1) < l1.length - i := by omega
                have hxe := HRO.out.each x (List.mem_of_getElem? hx)
                obtain ⟨gr, og, rfl, _, hcr⟩ := HRR.out.at_ hx
                have y0 : wb.cell? ⟨gr, og + i * 3, none⟩ = some (.int .i64 x.t) := HUB.out.cell (by simpa using hcr 0 _ rfl) (by simp)
                have y1 : wb.cell? ⟨gr, og + i * 3 + 1, none⟩ = some (.int .i64 (wh x.v)) := HUB.out.cell (hcr 1 _ rfl) (by simp)
                have y2 : wb.cell? ⟨gr, og + i * 3 + 2, none⟩ = some (.int .u64 (wl x.v)) := HUB.out.cell (hcr 2 _ rfl) (by simp)
                have hxb := HB.new wb 49 (ptR x)
                have x0 := hxb.cell (j := 0) rfl
                have hal := (Upd.refl [] wb).alloc (.cells (ptR x).toArray 49)
                have HUX := Lib.hid (HU3.out.then (HUB.out.then hal))
                have HXB := Lib.hid hxb
                have HUBX := Lib.hid (HUB.out.then hal)
                have a0 := (HBA.out.upd HUX.out (by simp)).cell (j := 0) rfl
                have a1 := (HBA.out.upd HUX.out (by simp)).cell (j := 1) rfl
                have HXI := Lib.hid hx
                have HXE := Lib.hid hxe
                have HTK := Lib.hid (show l1.take (i + 1) = l1.take i ++ [x] by rw [List.take_add_one, hx]; rfl)
                clear hx hcr hxb hal hxe
                by_cases hsk : x.t ≤ E - K
                · have d3 : decide (x.t ≤ E - K) = true := decide_eq_true hsk
                  have HSK := Lib.hid hsk
                  clear hsk
                  go_wp2
                  exact ⟨⟨i + 1, nn, hil, by omega, rfl, rfl, fun ⟨y, hy, hy2⟩ => by
                    rw [HTK.out, List.mem_append, List.mem_singleton] at hy
                    rcases hy with hy | rfl
                    · exact HCNT.out ⟨y, hy, hy2⟩
                    · have := HSK.out; omega, HUBX.out⟩, hms⟩
                · have d3 : decide (x.t ≤ E - K) = false := decide_eq_false hsk
                  have HSUM := Lib.hid (HALL.out x (List.mem_of_getElem? HXI.out) (by omega))
                  clear hsk
                  go_wp2_with fail
                  refine (of_calls 0 (by unfold I64; decide) _).mono ?_
                  rintro e w5 ⟨rfl, hU5⟩
                  have HX5 := Lib.hid (HXB.out.upd hU5 (by simp))
                  have HU5 := Lib.hid (HUX.out.then hU5)
                  have HP5 := Lib.hid (HUBX.out.then hU5)
                  have hsz5 : wb.heap.size < w5.heap.size := (HXB.out.upd hU5 (by simp)).lt
                  have hsb := HB.new w5 47 (wc 0)
                  have HSB := Lib.hid hsb
                  have HU5A := Lib.hid ((Upd.refl [] w5).alloc (.cells (wc 0).toArray 47))
                  clear hU5 hsb y0 y1 y2 x0 a0 a1
                  go_wp2_with fail
                  obtain ⟨qx, hqx⟩ : ∃ qx : Pt → Bool, qx = fun p => decide (x.t ≤ p.t ∧ p.t < x.t + b.1) := ⟨_, rfl⟩
                  have HQX := Lib.hid hqx
                  rw [← hqx] at HSUM
                  clear hqx
                  go_loopw [23] (fun kv wr => ∃ (j3 : Nat), j3 ≤ l0.length ∧ kv = .int .i64 (j3 : Int) ∧ HB wr w5.heap.size 47 (wc (((l0.take j3).filter qx).map (·.v)).sum) ∧ Upd [] w5 wr) (fun kv _ => l0.length - (intOf kv).toNat)
                  case atStart => exact ⟨0, Nat.zero_le _, rfl, HSB.out, HU5A.out⟩
                  case round =>
                    obtain ⟨j3, hk, rfl, hS, hU⟩ := hrel
                    have HS := Lib.hid hS
                    have HUK := Lib.hid hU
                    clear hS hU
                    by_cases hkl : j3 < l0.length
                    · obtain ⟨p, hp⟩ : ∃ p, l0[j3]? = some p := ⟨l0[j3], List.getElem?_eq_getElem hkl⟩
                      have hkI : (j3 : Int) < (l0.length : Int) := by omega
                      have hmk : l0.length - (j3 + 1) < l0.length - j3 := by omega
                      obtain ⟨gp', op', hgo, _, hcp⟩ := HRP.out.at_ hp
                      injection hgo with hgo
                      injection hgo with hg' ho' _
                      subst hg' ho'
                      have HUPK := Lib.hid (HP5.out.then HUK.out)
                      have HCP := Lib.hid (show ∀ w, Upd [] wr w → w.cell? ⟨gp, op + j3 * 3, none⟩ = some (.int .i64 p.t) ∧ w.cell? ⟨gp, op + j3 * 3 + 1, none⟩ = some (.int .i64 (wh p.v)) ∧ w.cell? ⟨gp, op + j3 * 3 + 2, none⟩ = some (.int .u64 (wl p.v)) from fun w hw => ⟨(HUPK.out.then hw).cell (by simpa using hcp 0 _ rfl) (by simp), (HUPK.out.then hw).cell (hcp 1 _ rfl) (by simp), (HUPK.out.then hw).cell (hcp 2 _ rfl) (by simp)⟩)
                      have HFT := Lib.hid (filter_take hp qx)
                      have HPK := Lib.hid hp
                      have hpe := HPO.out.each p (List.mem_of_getElem? hp)
                      have hxe := HXE.out
                      have hrb := HRB2.out
                      have ewx : IntKind.i64.wrap (x.t + b.1) = x.t + b.1 := wrapI' (by unfold I64; omega)
                      have ewx2 : wrap64 (x.t + b.1) = x.t + b.1 := w64 (by unfold I64; omega)
                      have q0 := fun d os => rg_cell (HCP.out wr (Upd.refl _ _)).1 d os
                      have q1 := fun d os => rg_cell ((HX5.out.upd HUK.out (by simp)).cell (j := 0) rfl) d os
                      have q2 := fun d os => rg_cell ((HBB.out.upd (HU5.out.then HUK.out) (by simp)).cell (j := 0) rfl) d os
                      have hcs : (decide (x.t ≤ p.t) = false ∧ qx p = false) ∨ (decide (x.t ≤ p.t) = true ∧ decide (p.t < x.t + b.1) = false ∧ qx p = false) ∨ (decide (x.t ≤ p.t) = true ∧ decide (p.t < x.t + b.1) = true ∧ qx p = true) := by
                        rw [HQX.out]
                        by_cases g1 : x.t ≤ p.t
                        · by_cases g2 : p.t < x.t + b.1
                          · exact .inr (.inr ⟨decide_eq_true g1, decide_eq_true g2, decide_eq_true ⟨g1, g2⟩⟩)
                          · exact .inr (.inl ⟨decide_eq_true g1, decide_eq_false g2, decide_eq_false (fun h => g2 h.2)⟩)
                        · exact .inl ⟨decide_eq_false g1, decide_eq_false (fun h => g1 h.1)⟩
                      clear hp hcp hpe hxe hrb
                      rcases hcs with ⟨g1, g3⟩ | ⟨g1, g2, g3⟩ | ⟨g1, g2, g3⟩
                      · have HST := Lib.hid (show (((l0.take (j3 + 1)).filter qx).map (·.v)).sum = (((l0.take j3).filter qx).map (·.v)).sum by rw [HFT.out, g3]; simp)
                        clear g3
                        go_wp2_with fail
                        refine wp_region_quiet_below (by kernel_rfl) (by kernel_rfl) ?_
                        repeat (go_big_quiet_step (fail))
                        refine wpQuiet_nil ?_
                        rintro _ ⟨⟨dq, osq⟩, rfl⟩
                        clear q0 q1 q2
                        have HUN := Lib.hid (HUK.out.then (rg_upd wr dq osq))
                        have HSN := Lib.hid (HS.out.upd (rg_upd wr dq osq) (by simp))
                        go_wp2
                        exact ⟨⟨j3 + 1, hkl, rfl, by rw [HST.out]; exact HSN.out, HUN.out⟩, hmk⟩
                      · have HST := Lib.hid (show (((l0.take (j3 + 1)).filter qx).map (·.v)).sum = (((l0.take j3).filter qx).map (·.v)).sum by rw [HFT.out, g3]; simp)
                        clear g3
                        go_wp2_with fail
                        refine wp_region_quiet_below (by kernel_rfl) (by kernel_rfl) ?_
                        repeat (go_big_quiet_step (fail))
                        refine wpQuiet_nil ?_
                        rintro _ ⟨⟨dq, osq⟩, rfl⟩
                        clear q0 q1 q2
                        have HUN := Lib.hid (HUK.out.then (rg_upd wr dq osq))
                        have HSN := Lib.hid (HS.out.upd (rg_upd wr dq osq) (by simp))
                        go_wp2
                        exact ⟨⟨j3 + 1, hkl, rfl, by rw [HST.out]; exact HSN.out, HUN.out⟩, hmk⟩
                      · obtain ⟨S, hSv⟩ : ∃ S, S = (((l0.take j3).filter qx).map (·.v)).sum := ⟨_, rfl⟩
                        have HST := Lib.hid (show (((l0.take (j3 + 1)).filter qx).map (·.v)).sum = S + p.v by rw [HFT.out, g3, hSv]; simp)
                        have HSI := Lib.hid (show I128 S ∧ I128 p.v ∧ I128 (S + p.v) by
                          have i1 := HPB.out qx j3
                          have i2 := HPB.out qx (j3 + 1)
                          rw [← hSv] at i1
                          rw [HST.out] at i2
                          refine ⟨i1, ?_, i2⟩
                          have hpe := HPO.out.each p (List.mem_of_getElem? (show l0[j3]? = some p from HPK.out))
                          have hab := HA.out.b
                          unfold I128
                          omega)
                        rw [← hSv] at HS
                        clear g3 hSv
                        go_wp2_with fail
                        refine wp_region_quiet_below (by kernel_rfl) (by kernel_rfl) ?_
                        repeat (go_big_quiet_step (fail))
                        refine wpQuiet_nil ?_
                        rintro _ ⟨⟨dq, osq⟩, rfl⟩
                        clear q0 q1 q2 ewx ewx2
                        obtain ⟨W9, hW9⟩ : ∃ W9, W9 = grow (redrawn wr dq) osq := ⟨_, rfl⟩
                        have HUN := Lib.hid (show Upd [] wr W9 by rw [hW9]; exact rg_upd wr dq osq)
                        have HSN := Lib.hid (HS.out.upd HUN.out (by simp))
                        rw [← hW9]
                        clear hW9
                        go_wp2_with fail
                        have HADD := Lib.hid (fun W => add_calls S p.v HSI.out.1 HSI.out.2.1 W)
                        rw [wres_in HSI.out.2.2] at HADD
                        refine region_rel2 12 (by kernel_rfl) (by kernel_rfl) rfl (by kernel_rfl) (fun D aa W => ∃ x167 x168 x169 x170 x171 x172 x173 x166 x174 x175 x24 : Value, aa = { tmps := #[.agg #[.int .i64 a.1, .int .i64 a.2], .agg #[.int .i64 b.1, .int .i64 b.2], .slice AG (List.length gs) cG, .slice AW zs.length cW, .pointer (some ⟨pa, 0, none⟩), .pointer (some ⟨pa + 1, 0, none⟩), undef, undef, u8, .slice (some ⟨pa + 1 + 1, 0, none⟩) 2 2, .pointer (some ⟨fb, 0, none⟩), .int .i64 0, .int .i64 (check [a, b]).1, .int .i64 0, .int .i64 T, .int .i64 k, .slice (some ⟨gp, op, none⟩) l0.length cP, .slice (some ⟨gr, og, none⟩) l1.length cR, .int .i64 E, .int .i64 nn, .int .i64 i, .pointer (some ⟨wb.heap.size, 0, none⟩), .pointer (some ⟨w5.heap.size, 0, none⟩), .int .i64 j3, x24, u25, .agg #[.int .i64 a.1, .int .i64 a.2], .agg #[.int .i64 b.1, .int .i64 b.2], .slice (some ⟨pa + 1 + 1, 0, none⟩) 2 2, .tuple #[.pointer (some ⟨fb, 0, none⟩), .int .i64 0], .slice (some ⟨pa + 1 + 1, 0, none⟩) 2 2, .tuple #[.pointer (some ⟨fb, 0, none⟩), .int .i64 0], .pointer (some ⟨fb, 0, none⟩), .int .i64 0, .tuple #[.int .i64 (check [a, b]).1, .int .i64 0], .slice (some ⟨pa + 1 + 1, 0, none⟩) 2 2, .tuple #[.int .i64 (check [a, b]).1, .int .i64 0], .int .i64 (check [a, b]).1, .int .i64 0, .pointer (some ⟨fb, 0, none⟩), .bool false, .bool false, .int .i64 0, .bool false, .bool false, undef, undef, undef, undef, undef, undef, undef, undef, undef, undef, undef, undef, undef, .int .i64 k, .slice AG (List.length gs) cG, .int .i64 (List.length gs), .bool true, .bool true, .int .i64 k, .slice AW zs.length cW, .int .i64 zs.length, .bool false, .bool false, u68, u69, u70, u71, u72, u73, u74, u75, u76, u77, u78, u79, u80, u81, u82, u83, u84, u85, u86, u87, u88, u89, u90, u91, u92, u93, u94, u95, u96, u97, .pointer (some ⟨fb, 0, none⟩), .slice (some ⟨gp, op, none⟩) l0.length cP, .pointer (some ⟨fb, 0, none⟩), .slice (some ⟨gr, og, none⟩) l1.length cR, .slice (some ⟨gp, op, none⟩) l0.length cP, .int .i64 l0.length, .bool false, undef, undef, undef, undef, undef, undef, .slice (some ⟨gp, op, none⟩) l0.length cP, .slice (some ⟨gp, op, none⟩) l0.length cP, .int .i64 l0.length, .int .i64 q, .pointer (some ⟨gp, op + q * 3, none⟩), .pointer (some ⟨gp, op + q * 3, none⟩), .int .i64 E, .int .i64 i, .slice (some ⟨gr, og, none⟩) l1.length cR, .int .i64 l1.length, .bool true, u122, u123, .slice (some ⟨gr, og, none⟩) l1.length cR, .int .i64 i, .pointer (some ⟨gr, og + i * 3, none⟩), .agg #[.int .i64 x.t, .int .i64 (wh x.v), .int .u64 (wl x.v)], .pointer (some ⟨wb.heap.size, 0, none⟩), .int .i64 x.t, .int .i64 E, .pointer (some ⟨pa, 0, none⟩), .int .i64 a.1, .pointer (some ⟨pa, 1, none⟩), .int .i64 a.2, .int .i64 K, .int .i64 (E - K), .bool false, wide 0, .int .i64 j3, .slice (some ⟨gp, op, none⟩) l0.length cP, .int .i64 l0.length, .bool true, u143, u144, .slice (some ⟨gp, op, none⟩) l0.length cP, .int .i64 j3, .pointer (some ⟨gp, op + j3 * 3, none⟩), .pointer (some ⟨gp, op + j3 * 3, none⟩), .int .i64 p.t, .pointer (some ⟨wb.heap.size, 0, none⟩), .int .i64 x.t, .bool true, .bool true, .slice (some ⟨gp, op, none⟩) l0.length cP, .int .i64 j3, .pointer (some ⟨gp, op + j3 * 3, none⟩), .pointer (some ⟨gp, op + j3 * 3, none⟩), .int .i64 p.t, .pointer (some ⟨wb.heap.size, 0, none⟩), .int .i64 x.t, .pointer (some ⟨pa + 1, 0, none⟩), .int .i64 b.1, .int .i64 (x.t + b.1), .bool true, .bool true, x166, x167, x168, x169, x170, x171, x172, x173, x174, x175, u176, u177, u178, u179, u180, u181, u182, u183, u184, undef, undef, undef, undef, undef], defers := [] } ∧ Upd [] W9 W ∧ (D 0 = true → x167 = .agg #[.int .i64 (wh S), .int .u64 (wl S)]) ∧ (D 1 = true → x168 = .slice (some ⟨gp, op, none⟩) l0.length cP) ∧ (D 2 = true → x169 = .int .i64 (j3 : Int)) ∧ (D 3 = true → x170 = .pointer (some ⟨gp, op + j3 * 3, none⟩)) ∧ (D 4 = true → x171 = .pointer (some ⟨gp, op + j3 * 3 + 1, none⟩)) ∧ (D 5 = true → x172 = .agg #[.int .i64 (wh p.v), .int .u64 (wl p.v)]) ∧ (D 6 = true → x173 = .tuple #[.agg #[.int .i64 (wh (S + p.v)), .int .u64 (wl (S + p.v))], .int .i64 0]) ∧ (D 7 = true → x166 = .tuple #[.agg #[.int .i64 (wh (S + p.v)), .int .u64 (wl (S + p.v))], .int .i64 0]) ∧ (D 8 = true → x174 = .agg #[.int .i64 (wh (S + p.v)), .int .u64 (wl (S + p.v))]) ∧ (D 9 = true → x175 = .int .i64 0) ∧ (D 10 = true → (D 11 = false → WBlk W9 W 0 x24)) ∧ (D 11 = true → WBlk W9 W (S + p.v) x24)) ⟨_, _, _, _, _, _, _, _, _, _, _, rfl, (Upd.refl _ _).drew, (fun h => by cases h), (fun h => by cases h), (fun h => by cases h), (fun h => by cases h), (fun h => by cases h), (fun h => by cases h), (fun h => by cases h), (fun h => by cases h), (fun h => by cases h), (fun h => by cases h), (fun h => by cases h), (fun h => by cases h)⟩ ?_ ?_
                        · rintro D aa W i o ⟨x167, x168, x169, x170, x171, x172, x173, x166, x174, x175, x24, rfl, hU, h0, h1, h2, h3, h4, h5, h6, h7, h8, h9, h10, h11⟩ hi ho hDi hdep hcl
                          match i with
                          | 0 =>
                            refine wpOp_via ho fun KK hK => ?_
                            have HK := Lib.hid hK
                            clear hK
                            obtain rfl := Option.some.inj ho
                            have HUW := Lib.hid hU
                            clear hU
                            have hs := HSN.out.upd HUW.out (by simp)
                            have s0 := hs.cell (j := 0) rfl
                            have s1 := hs.cell (j := 1) rfl
                            clear hs
                            go_wp2
                            exact HK.out _ _ ⟨_, _, _, _, _, _, _, _, _, _, _, rfl, HUW.out, (fun _ => rfl), (by simpa using h1), (by simpa using h2), (by simpa using h3), (by simpa using h4), (by simpa using h5), (by simpa using h6), (by simpa using h7), (by simpa using h8), (by simpa using h9), (fun h hd => h10 (by simpa using h) (by simpa using hd)), (fun h => h11 (by simpa using h))⟩
                          | 1 =>
                            refine wpOp_via ho fun KK hK => ?_
                            have HK := Lib.hid hK
                            clear hK
                            obtain rfl := Option.some.inj ho
                            have HUW := Lib.hid hU
                            clear hU
                            go_wp2
                            exact HK.out _ _ ⟨_, _, _, _, _, _, _, _, _, _, _, rfl, HUW.out, (by simpa using h0), (fun _ => rfl), (by simpa using h2), (by simpa using h3), (by simpa using h4), (by simpa using h5), (by simpa using h6), (by simpa using h7), (by simpa using h8), (by simpa using h9), (fun h hd => h10 (by simpa using h) (by simpa using hd)), (fun h => h11 (by simpa using h))⟩
                          | 2 =>
                            refine wpOp_via ho fun KK hK => ?_
                            have HK := Lib.hid hK
                            clear hK
                            obtain rfl := Option.some.inj ho
                            have HUW := Lib.hid hU
                            clear hU
                            go_wp2
                            exact HK.out _ _ ⟨_, _, _, _, _, _, _, _, _, _, _, rfl, HUW.out, (by simpa using h0), (by simpa using h1), (fun _ => rfl), (by simpa using h3), (by simpa using h4), (by simpa using h5), (by simpa using h6), (by simpa using h7), (by simpa using h8), (by simpa using h9), (fun h hd => h10 (by simpa using h) (by simpa using hd)), (fun h => h11 (by simpa using h))⟩
                          | 3 =>
                            refine wpOp_via ho fun KK hK => ?_
                            have HK := Lib.hid hK
                            clear hK
                            obtain rfl := Option.some.inj ho
                            obtain rfl := h1 (hdep ⟨1, .data⟩ (by simp) rfl)
                            obtain rfl := h2 (hdep ⟨2, .data⟩ (by simp) rfl)
                            have HUW := Lib.hid hU
                            clear hU
                            go_wp2
                            exact HK.out _ _ ⟨_, _, _, _, _, _, _, _, _, _, _, rfl, HUW.out, (by simpa using h0), (by simp), (by simp), (fun _ => rfl), (by simpa using h4), (by simpa using h5), (by simpa using h6), (by simpa using h7), (by simpa using h8), (by simpa using h9), (fun h hd => h10 (by simpa using h) (by simpa using hd)), (fun h => h11 (by simpa using h))⟩
                          | 4 =>
                            refine wpOp_via ho fun KK hK => ?_
                            have HK := Lib.hid hK
                            clear hK
                            obtain rfl := Option.some.inj ho
                            obtain rfl := h3 (hdep ⟨3, .data⟩ (by simp) rfl)
                            have HUW := Lib.hid hU
                            clear hU
                            go_wp2
                            exact HK.out _ _ ⟨_, _, _, _, _, _, _, _, _, _, _, rfl, HUW.out, (by simpa using h0), (by simpa using h1), (by simpa using h2), (by simp), (fun _ => rfl), (by simpa using h5), (by simpa using h6), (by simpa using h7), (by simpa using h8), (by simpa using h9), (fun h hd => h10 (by simpa using h) (by simpa using hd)), (fun h => h11 (by simpa using h))⟩
                          | 5 =>
                            refine wpOp_via ho fun KK hK => ?_
                            have HK := Lib.hid hK
                            clear hK
                            obtain rfl := Option.some.inj ho
                            obtain rfl := h4 (hdep ⟨4, .data⟩ (by simp) rfl)
                            have HUW := Lib.hid hU
                            clear hU
                            obtain ⟨_, r1', r2'⟩ := HCP.out _ (HUN.out.then HUW.out)
                            go_wp2
                            exact HK.out _ _ ⟨_, _, _, _, _, _, _, _, _, _, _, rfl, HUW.out, (by simpa using h0), (by simpa using h1), (by simpa using h2), (by simpa using h3), (by simp), (fun _ => rfl), (by simpa using h6), (by simpa using h7), (by simpa using h8), (by simpa using h9), (fun h hd => h10 (by simpa using h) (by simpa using hd)), (fun h => h11 (by simpa using h))⟩
                          | 6 =>
                            refine wpOp_via ho fun KK hK => ?_
                            have HK := Lib.hid hK
                            clear hK
                            obtain rfl := Option.some.inj ho
                            obtain rfl := h0 (hdep ⟨0, .data⟩ (by simp) rfl)
                            obtain rfl := h5 (hdep ⟨5, .data⟩ (by simp) rfl)
                            have HUW := Lib.hid hU
                            clear hU
                            go_wp2_with fail
                            refine (HADD.out _).mono ?_
                            rintro e w2 ⟨rfl, hU1⟩
                            go_wp2
                            exact HK.out _ _ ⟨_, _, _, _, _, _, _, _, _, _, _, rfl, HUW.out.then hU1, (by simp), (by simpa using h1), (by simpa using h2), (by simpa using h3), (by simpa using h4), (by simp), (fun _ => rfl), (by simpa using h7), (by simpa using h8), (by simpa using h9), (fun h hd => WBlk.upd0 (h10 (by simpa using h) (by simpa using hd)) hU1), (fun h => WBlk.upd0 (h11 (by simpa using h)) hU1)⟩
                          | 7 =>
                            refine wpOp_via ho fun KK hK => ?_
                            have HK := Lib.hid hK
                            clear hK
                            obtain rfl := Option.some.inj ho
                            obtain rfl := h6 (hdep ⟨6, .data⟩ (by simp) rfl)
                            have HUW := Lib.hid hU
                            clear hU
                            go_wp2
                            exact HK.out _ _ ⟨_, _, _, _, _, _, _, _, _, _, _, rfl, HUW.out, (by simpa using h0), (by simpa using h1), (by simpa using h2), (by simpa using h3), (by simpa using h4), (by simpa using h5), (by simp), (fun _ => rfl), (by simpa using h8), (by simpa using h9), (fun h hd => h10 (by simpa using h) (by simpa using hd)), (fun h => h11 (by simpa using h))⟩
                          | 8 =>
                            refine wpOp_via ho fun KK hK => ?_
                            have HK := Lib.hid hK
                            clear hK
                            obtain rfl := Option.some.inj ho
                            obtain rfl := h7 (hdep ⟨7, .data⟩ (by simp) rfl)
                            have HUW := Lib.hid hU
                            clear hU
                            go_wp2
                            exact HK.out _ _ ⟨_, _, _, _, _, _, _, _, _, _, _, rfl, HUW.out, (by simpa using h0), (by simpa using h1), (by simpa using h2), (by simpa using h3), (by simpa using h4), (by simpa using h5), (by simpa using h6), (by simp), (fun _ => rfl), (by simpa using h9), (fun h hd => h10 (by simpa using h) (by simpa using hd)), (fun h => absurd (hcl 11 _ rfl (by simpa using h) ⟨8, .data⟩ (by simp) rfl) (by rw [hDi]; simp))⟩
                          | 9 =>
                            refine wpOp_via ho fun KK hK => ?_
                            have HK := Lib.hid hK
                            clear hK
                            obtain rfl := Option.some.inj ho
                            obtain rfl := h7 (hdep ⟨7, .data⟩ (by simp) rfl)
                            have HUW := Lib.hid hU
                            clear hU
                            go_wp2
                            exact HK.out _ _ ⟨_, _, _, _, _, _, _, _, _, _, _, rfl, HUW.out, (by simpa using h0), (by simpa using h1), (by simpa using h2), (by simpa using h3), (by simpa using h4), (by simpa using h5), (by simpa using h6), (by simp), (by simpa using h8), (fun _ => rfl), (fun h hd => h10 (by simpa using h) (by simpa using hd)), (fun h => h11 (by simpa using h))⟩
                          | 10 =>
                            refine wpOp_via ho fun KK hK => ?_
                            have HK := Lib.hid hK
                            clear hK
                            obtain rfl := Option.some.inj ho
                            have HUW := Lib.hid hU
                            clear hU
                            have hx : WBlk W9 (W.alloc (.cells (wc 0).toArray 47)) 0 (.pointer (some ⟨W.heap.size, 0, none⟩)) := ⟨_, rfl, HUW.out.size, HB.new W _ _⟩
                            have hU1 := (Upd.refl [] W).alloc (.cells (wc 0).toArray 47)
                            go_wp2
                            exact HK.out _ _ ⟨_, _, _, _, _, _, _, _, _, _, _, rfl, HUW.out.then hU1, (by simpa using h0), (by simpa using h1), (by simpa using h2), (by simpa using h3), (by simpa using h4), (by simpa using h5), (by simpa using h6), (by simpa using h7), (by simpa using h8), (by simpa using h9), (fun _ _ => hx), (fun h => absurd (hcl 11 _ rfl (by simpa using h) ⟨10, .data⟩ (by simp) rfl) (by rw [hDi]; simp))⟩
                          | 11 =>
                            refine wpOp_via ho fun KK hK => ?_
                            have HK := Lib.hid hK
                            clear hK
                            obtain rfl := Option.some.inj ho
                            obtain rfl := h8 (hdep ⟨8, .data⟩ (by simp) rfl)
                            have r10 := h10 (hdep ⟨10, .data⟩ (by simp) rfl) hDi
                            have HUW := Lib.hid hU
                            clear hU
                            obtain ⟨b4, e1, hb1, hb2⟩ := r10
                            obtain rfl := e1
                            have hst := ((Upd.refl [b4] W).setCell (p := ⟨b4, 0, none⟩) (.inl (by simp)) (.int .i64 (wh (S + p.v)))).setCell (p := ⟨b4, 1, none⟩) (.inl (by simp)) (.int .u64 (wl (S + p.v)))
                            have hUF : Upd [] W9 _ := HUW.out.trans hst (fun _ h => h) (fun i hi => .inr (by simp at hi; subst hi; exact hb1))
                            have hx : WBlk W9 _ (S + p.v) (.pointer (some ⟨b4, 0, none⟩)) := ⟨b4, rfl, hb1, (hb2.set 0 (.int .i64 (wh (S + p.v)))).set 1 (.int .u64 (wl (S + p.v)))⟩
                            have z0 := hb2.cell (j := 0) rfl
                            have z1 := hb2.cell (j := 1) rfl
                            have zf0 := hb2.free 0
                            have zf1 := hb2.free 1
                            have HX := Lib.hid hx
                            have HUF := Lib.hid hUF
                            clear hx hUF hst hb2
                            go_wp2
                            have hx := HX.out
                            have hUF := HUF.out
                            exact HK.out _ _ ⟨_, _, _, _, _, _, _, _, _, _, _, rfl, hUF, (by simpa using h0), (by simpa using h1), (by simpa using h2), (by simpa using h3), (by simpa using h4), (by simpa using h5), (by simpa using h6), (by simpa using h7), (by simp), (by simpa using h9), (fun _ hd => by simp at hd), (fun _ => hx)⟩
                          | i + 12 => omega
                        · rintro D aa W o ⟨x167, x168, x169, x170, x171, x172, x173, x166, x174, x175, x24, rfl, hU, h0, h1, h2, h3, h4, h5, h6, h7, h8, h9, h10, h11⟩ hall ho
                          refine wpOp_of_list ho ?_
                          obtain rfl := Option.some.inj ho
                          obtain rfl := h0 (hall 0 (by omega))
                          obtain rfl := h1 (hall 1 (by omega))
                          obtain rfl := h2 (hall 2 (by omega))
                          obtain rfl := h3 (hall 3 (by omega))
                          obtain rfl := h4 (hall 4 (by omega))
                          obtain rfl := h5 (hall 5 (by omega))
                          obtain rfl := h6 (hall 6 (by omega))
                          obtain rfl := h7 (hall 7 (by omega))
                          obtain rfl := h8 (hall 8 (by omega))
                          obtain rfl := h9 (hall 9 (by omega))
                          have r10 := h10 (hall 10 (by omega))
                          have r11 := h11 (hall 11 (by omega))
                          obtain ⟨b4, e1, hb1, hb2⟩ := r11
                          obtain rfl := e1
                          have HUW := Lib.hid hU
                          have z0 := hb2.cell (j := 0) rfl
                          have z1 := hb2.cell (j := 1) rfl
                          have hs := HSN.out.upd hU (by simp)
                          have s0 := hs.cell (j := 0) rfl
                          have s1 := hs.cell (j := 1) rfl
                          have sf0 := hs.free 0
                          have sf1 := hs.free 1
                          have HS4 := Lib.hid hs
                          have HUZ := Lib.hid ((HUK.out.then (HUN.out.then hU)))
                          clear r10 hU hb2 hs
                          go_wp2
                          exact ⟨⟨j3 + 1, hkl, rfl, by rw [HST.out]; exact (HS4.out.set 0 (.int .i64 (wh (S + p.v)))).set 1 (.int .u64 (wl (S + p.v))), (HUZ.out.setCell (p := ⟨w5.heap.size, 0, none⟩) (.inr (Nat.le_refl _)) (.int .i64 (wh (S + p.v)))).setCell (p := ⟨w5.heap.size, 1, none⟩) (.inr (Nat.le_refl _)) (.int .u64 (wl (S + p.v)))⟩, hmk⟩
                    · obtain rfl : j3 = l0.length := by omega
                      have hfin : (((l0.take l0.length).filter qx).map (·.v)).sum = x.v := by rw [List.take_length]; exact HSUM.out.symm
                      have hS2 := HS.out
                      rw [hfin] at hS2
                      have s0 := hS2.cell (j := 0) rfl
                      have s1 := hS2.cell (j := 1) rfl
                      have x1 := (HX5.out.upd HUK.out (by simp)).cell (j := 1) rfl
                      have x2 := (HX5.out.upd HUK.out (by simp)).cell (j := 2) rfl
                      have HUE := Lib.hid (HP5.out.then HUK.out)
                      clear hfin hS2
                      go_wp2
                      exact ⟨⟨i + 1, nn + 1, hil, by omega, rfl, rfl, fun _ => by omega, HUE.out⟩, hms⟩
              · obtain rfl : i = l1.length := by omega
                have hpos : 1 ≤ nn := HCNT.out (by rw [List.take_length]; exact HEX.out)
                have d5 : decide (0 < nn) = true := decide_eq_true (by omega)
                clear hpos
                go_wp2_with fail
                refine (alive_calls _).mono ?_
                rintro e w4 ⟨rfl, hU4⟩
                have HUF := Lib.hid (HU0.out.then (HU3.out.then (HUB.out.then hU4)))
                clear hU4
                go_wp2
                go_ret
                exact ⟨rfl, HUF.out⟩
  · have HCR := Lib.hid (create_no _ _ [a, b] 2 0 W0 hrow hss (by unfold creErr; rw [hc]; decide))
    have hce : creErr [a, b] 2 0 = 190 := by unfold creErr; rw [hc]; rfl
    rw [hce] at HCR
    rw [hc] at HRC
    clear hrow hss ha hb hc hce
    go_enter Try.func5, Try.ntmps5
    go_wp2_with fail
    rw [← hW0]
    clear hW0
    refine HCR.out.mono ?_
    rintro e w1 ⟨rfl, hU1⟩
    have HU1 := Lib.hid hU1
    clear hU1
    go_wp2_with fail
    refine (HRC.out _ HU1.out).mono ?_
    rintro e w2 ⟨rfl, hU2⟩
    have HU2 := Lib.hid (HU1.out.then hU2)
    clear hU2
    go_wp2_with fail
    refine (alive_calls _).mono ?_
    rintro e w3 ⟨rfl, hU3⟩
    have HU3 := Lib.hid (HU0.out.then (HU2.out.then hU3))
    clear hU3
    go_wp2
    go_ret
    exact ⟨rfl, HU3.out⟩
end Go.Proofs.Ytdjpcinibgbglaa
