/- The law ArchiveOpens. -/
import Derived.Test.YtdjpcinibgbglaaROpen
set_option linter.unusedVariables false
set_option linter.unusedSimpArgs false
namespace Go.Proofs.Ytdjpcinibgbglaa
open Go.RowKit Go.Sort
theorem byte_row {W : World} {F : Nat → Prop} {cs : List Value} {xs : List Int} (h : Rd W F (.slice (.int .u8)) cs xs) : ∃ v, cs = [v] ∧ RowK W F bc 1 v xs ∧ Byt xs := by
  obtain ⟨A, c, rfl, h1, h2, h3, h4⟩ := h
  have key : ∀ (i : Nat) (x : Int), xs[i]? = some x → (0 ≤ x ∧ x ≤ 255) ∧ ∃ b o, A = some ⟨b, o, none⟩ ∧ F b ∧ ∀ j u, (bc x)[j]? = some u → W.cell? ⟨b, o + i * 1 + j, none⟩ = some u := by
    intro i x hx
    obtain ⟨b, o, ecs, r1, r2, r3, r4, r5⟩ := h4 i x hx
    obtain ⟨rfl, w1⟩ := r5
    refine ⟨?_, b, o, r1, r2, r4⟩
    simp [Lit.wf, IntKind.min, IntKind.max, IntKind.bits, IntKind.signed] at w1
    omega
  refine ⟨_, rfl, ⟨A, c, rfl, h1, h2, h3, fun i x hx => (key i x hx).2⟩, fun x hx => ?_⟩
  obtain ⟨i, hi, e⟩ := List.mem_iff_getElem.1 hx
  exact (key i x (by rw [List.getElem?_eq_getElem hi, e])).1
theorem row_str' {w : World} {F : Nat → Prop} {A : Option Addr} {n c : Nat} {l : List Int} (h : RowK w F bc 1 (.slice A n c) l) : (convert 62 9 (.slice A n c)).run Try.prog w = .ok (.string (strOfNums l)) w := by
  rcases l with _ | ⟨x, l⟩
  · obtain rfl : n = 0 := h.len
    cases A with
    | none => kernel_rfl
    | some a => kernel_rfl
  · exact row_str h (by simp)
set_option maxRecDepth 20000 in
set_option maxHeartbeats 4000000 in
theorem archiveOpens_calls (c0 : List Value) (x0 : GT.den (.slice (.int .u8))) (W : World) (h0 : Rd W (· < W.heap.size) (.slice (.int .u8)) c0 x0) (hg : x0.length * 1 ≤ 140737488355328) :
    Calls Try.prog 9 #[GT.val (.slice (.int .u8)) c0] W fun e w' => e = .returned (.bool true) ∧ Upd [] W w' := by
  obtain ⟨v, rfl, hr, hb⟩ := byte_row h0
  show Calls Try.prog 9 #[v] W _
  clear h0
  generalize x0 = l at *
  rw [Nat.mul_one] at hg
  obtain ⟨A, c, rfl, hc1, hc2, -⟩ := hr.shape
  have HOP := Lib.hid (open_calls _ _ l W hr hb hg (fun b h => h))
  obtain ⟨S, hS⟩ : ∃ S, S = strOfNums l := ⟨_, rfl⟩
  have hn : nums S = l := by rw [hS]; exact nums_of hb
  have hsz : S.size ≤ 140737488355328 := by rw [hS, strOfNums_size]; exact hg
  have HRO := Lib.hid (fun w => ropen_calls S hsz w)
  rw [hn] at HRO
  have HCV := Lib.hid (fun (p : Wd [] W) => row_str' (hr.upd0 p.h))
  rw [← hS] at HCV
  have HBK := Lib.hid (fun (f : Fl) (h : openP l = .ok f) => openP_back hb h)
  have HS := Lib.hid hS
  clear hr hb hn hS
  cases hP : openP l with
  | error r =>
    obtain ⟨p, er⟩ := r
    rw [hP] at HOP HRO
    have hne := openP_err hP
    have dne : (er != 0) = true := by simpa using hne
    clear hP hne HBK
    go_enter Try.func9, Try.ntmps9
    go_wp2_with fail
    refine HOP.out.mono ?_
    rintro e w1 ⟨rfl, hU1⟩
    have hcv : (convert 62 9 (.slice A l.length c)).run Try.prog w1 = .ok (.string S) w1 := HCV.out ⟨w1, hU1⟩
    have HU1 := Lib.hid hU1
    clear hU1
    go_wp2_with fail
    refine (HRO.out _).mono ?_
    rintro e w2 ⟨rfl, hU2⟩
    have HU2 := Lib.hid ((HU1.out.then hU2).alloc (.cells #[.int .i64 0, .int .i64 0, .slice none 0 0, .slice none 0 0] 38))
    clear hU2 hcv
    go_wp2_with fail
    refine (alive_calls _).mono ?_
    rintro e w3 ⟨rfl, hU3⟩
    have HU3 := Lib.hid (HU2.out.then hU3)
    clear hU3
    go_wp2
    go_ret
    exact ⟨rfl, HU3.out⟩
  | ok f =>
    rw [hP] at HOP HRO
    obtain ⟨hbk, hfo⟩ := HBK.out f hP
    have HFO := Lib.hid hfo
    have HBY := Lib.hid hbk
    clear hP HBK hbk hfo
    go_enter Try.func9, Try.ntmps9
    go_wp2_with fail
    refine HOP.out.mono ?_
    rintro e w1 ⟨base, fb, bv, Ls, rfl, hb1, hb2, hF, hU1⟩
    have hcv : (convert 62 9 (.slice A l.length c)).run Try.prog w1 = .ok (.string S) w1 := HCV.out ⟨w1, hU1⟩
    have HU1 := Lib.hid hU1
    have HF := Lib.hid hF
    clear hU1 hF HOP
    go_wp2_with fail
    refine (HRO.out _).mono ?_
    rintro e w2 ⟨sv, hv, hs, rfl, hS2, hH2, hrow, hU2⟩
    obtain ⟨AS, cS, rfl, _, _, _⟩ := own_shape hS2
    obtain ⟨AH, cH, rfl, _, _, _⟩ := own_shape hH2
    have hUA := (Upd.refl [] w2).alloc (.cells #[.int .i64 f.m, .int .i64 f.xff, .slice AS f.bands.length cS, .slice AH f.bands.length cH] 38)
    have HS2 := Lib.hid (own_upd hS2 hUA (by simp))
    have HH2 := Lib.hid (own_upd hH2 hUA (by simp))
    have HRW := Lib.hid (fun k b v hb hv => (hrow k b v hb hv).upd0 hUA)
    have HF2 := Lib.hid (HF.out.upd0 (hU2.then hUA))
    have HU2 := Lib.hid (HU1.out.then (hU2.then hUA))
    have HB2 := Lib.hid (HB.new w2 38 [.int .i64 f.m, .int .i64 f.xff, .slice AS f.bands.length cS, .slice AH f.bands.length cH])
    clear hS2 hH2 hrow hU2 hUA hcv HRO HF HU1
    go_wp2_with fail
    generalize w2.alloc (.cells #[.int .i64 f.m, .int .i64 f.xff, .slice AS f.bands.length cS, .slice AH f.bands.length cH] 38) = w3 at *
    generalize w2.heap.size = rfb at *
    refine (alive_calls _).mono ?_
    rintro e w4 ⟨rfl, hU4⟩
    have HS4 := Lib.hid (own_upd HS2.out hU4 (by simp))
    have HH4 := Lib.hid (own_upd HH2.out hU4 (by simp))
    have HRW4 := Lib.hid (fun k b v hb hv => (HRW.out k b v hb hv).upd0 hU4)
    have HF4 := Lib.hid (HF2.out.upd0 hU4)
    have HU4 := Lib.hid (HU2.out.then hU4)
    have HB4 := Lib.hid (HB2.out.upd hU4 (by simp))
    have hlen8 := HFO.out.le
    clear hU4 HS2 HH2 HRW HF2 HU2 HB2
    go_wp2_with fail
    go_loopw [9] (fun iv wr => ∃ k : Nat, k ≤ f.bands.length ∧ iv = .int .i64 (k : Int) ∧ Upd [] w4 wr) (fun iv _ => f.bands.length - (intOf iv).toNat)
    case atStart => exact ⟨0, Nat.zero_le _, rfl, Upd.refl _ _⟩
    case round =>
      obtain ⟨k, hk, rfl, hU⟩ := hrel
      have HU := Lib.hid hU
      clear hU
      by_cases hlt : k < f.bands.length
      · have hkI : (k : Int) < (f.bands.length : Int) := by omega
        have hms : f.bands.length - (k + 1) < f.bands.length - k := by omega
        obtain ⟨b, hb⟩ : ∃ b, f.bands[k]? = some b := ⟨_, List.getElem?_eq_getElem hlt⟩
        have hhl : hs.length = f.bands.length := by have := HH4.out.1; omega
        obtain ⟨v, hv⟩ : ∃ v, hs[k]? = some v := ⟨_, List.getElem?_eq_getElem (by omega)⟩
        have HRV := Lib.hid ((HRW4.out k b v hb hv).upd0 HU.out)
        obtain ⟨g, rfl, hcell, _⟩ := own_cell HH4.out k v hv
        obtain ⟨B, cB, rfl, _, _, _⟩ := HRV.out.shape
        have hU0 := (HU.out.size)
        have b1 := HU.out.cell (HB4.out.cell (j := 3) rfl) (by simp)
        have c1 := fun p : Wd [] wr => (HU.out.then p.h).cell (HB4.out.cell (j := 3) rfl) (by simp)
        have cg := fun p : Wd [] wr => (HU.out.then p.h).cell hcell (by simp)
        have HPF := Lib.hid (pointsF_in base fb f bv Ls k b wr.drew (HF4.out.upd0 HU.out.drew) HFO.out hb)
        have HBOK := Lib.hid (HFO.out.bands b (List.mem_of_getElem? hb))
        clear hb hv hcell hhl hU0
        go_wp2_with fail
        clear b1
        refine mix_start (n := 10) 8 (fun w' => ∃ p : Wd [] wr, w' = p.v) (by kernel_rfl) (by kernel_rfl) ?_
        refine mix_quiet [true, true, false, true, true, true, true, true] 3 rfl (by kernel_rfl) (by kernel_rfl) (by kernel_rfl) (by kernel_rfl) ⟨⟨_, (Upd.refl [] wr).drew⟩, rfl⟩ ?_
        simp only [maskL]
        repeat (go_big_quiet_step (fail))
        refine wpQuiet_nil ?_
        clear c1 cg
        refine mix_one 2 (by kernel_rfl) (by kernel_rfl) rfl ?_
        intro K QF hK
        go_wp2_with fail
        refine HPF.out.mono ?_
        rintro e wa ⟨va, la, rfl, hp1, hs1, ho1, hUa⟩
        obtain rfl := pts_uniq HBOK.out hp1 hs1
        have HRA := Lib.hid ((own_row ptR_len (by decide) ho1).2)
        obtain ⟨A2, c2, rfl, _, _, _⟩ := HRA.out.shape
        have HUa := Lib.hid ((Upd.refl [] wr).drew.then hUa)
        clear hp1 hs1 ho1 hUa HPF
        go_wp2_with fail
        refine hK _ _ ⟨⟨_, HUa.out⟩, rfl⟩ ?_
        clear hK K QF
        refine mix_tail (by kernel_rfl) (by kernel_rfl) ?_
        simp only [List.drop_succ_cons, List.drop_zero]
        go_wp2_with fail
        refine (samePts_true _ _ _ _ _ wa HRA.out (HRV.out.upd0 HUa.out)).mono ?_
        rintro e wb ⟨rfl, hUb⟩
        have HUb := Lib.hid (HU.out.then (HUa.out.then hUb))
        clear hUb
        go_wp2
        exact ⟨⟨k + 1, hlt, rfl, HUb.out⟩, by simp [intOf]; omega⟩
      · obtain rfl : k = f.bands.length := by omega
        have c1 := HU.out.cell (HB4.out.cell (j := 3) rfl) (by simp)
        go_wp2_with fail
        clear c1
        have HBr := Lib.hid (HB4.out.upd HU.out (by simp))
        have HSr := Lib.hid ((own_row (enc := spcC) (fun _ => rfl) (by decide) (show wr.ownsRow w1.heap.size 44 2 (.slice AS f.bands.length cS) (f.bands.map Band.spc).length ((f.bands.map Band.spc).flatMap spcC) by rw [List.length_map]; exact own_upd HS4.out HU.out (by simp))).2)
        have r0 := fun p : Wd [] wr => p.h.cell (HBr.out.cell (j := 0) rfl) (by simp)
        have r1 := fun p : Wd [] wr => p.h.cell (HBr.out.cell (j := 1) rfl) (by simp)
        have r2 := fun p : Wd [] wr => p.h.cell (HBr.out.cell (j := 2) rfl) (by simp)
        have HIC := Lib.hid (info_calls base fb f bv Ls wr.drew (HF4.out.upd0 HU.out.drew) HFO.out)
        have HUr := Lib.hid (HU4.out.then HU.out)
        have HCV2 := Lib.hid (fun p : Wd [] wr => HCV.out ⟨p.v, HUr.out.then p.h⟩)
        have HSB := Lib.hid (show S = strOfNums f.bytes by rw [HS.out, HBY.out])
        have hlb : 0 < f.bytes.length := by have := bytes_len14 f; omega
        refine mix_start (n := 14) 11 (fun w' => ∃ p : Wd [] wr, w' = p.v) (by kernel_rfl) (by kernel_rfl) ?_
        refine mix_quiet [true, false, true, true] 11 rfl (by kernel_rfl) (by kernel_rfl) (by kernel_rfl) (by kernel_rfl) ⟨⟨_, (Upd.refl [] wr).drew⟩, rfl⟩ ?_
        simp only [maskL]
        repeat (go_big_quiet_step (fail))
        refine wpQuiet_nil ?_
        clear r0 r1 r2
        refine mix_one 1 (by kernel_rfl) (by kernel_rfl) rfl ?_
        intro K QF hK
        go_wp2_with fail
        refine HIC.out.mono ?_
        rintro e wa ⟨va, rfl, h5, hUa⟩
        have HR5 := Lib.hid ((own_row (enc := spcC) (k := 2) (fun _ => rfl) (by decide) (show wa.ownsRow wr.drew.heap.size 44 2 va (f.bands.map Band.spc).length ((f.bands.map Band.spc).flatMap spcC) by rw [List.length_map]; exact h5)).2)
        have HUa := Lib.hid ((Upd.refl [] wr).drew.then hUa)
        clear h5 hUa HIC
        go_wp2_with fail
        refine hK _ _ ⟨⟨_, HUa.out⟩, rfl⟩ ?_
        clear hK K QF
        refine mix_one 4 (by kernel_rfl) (by kernel_rfl) rfl ?_
        intro K QF hK
        go_wp2_with fail
        refine (sameInfo_true _ _ f.m f.xff va (.slice AS f.bands.length cS) _ wa HR5.out (HSr.out.upd0 HUa.out)).mono ?_
        rintro e wb ⟨rfl, hUb⟩
        have HUb := Lib.hid (HUa.out.then hUb)
        have HBF := Lib.hid (bytes_calls base fb f bv Ls wb (HF4.out.upd0 (HU.out.then HUb.out)) HFO.out)
        have hcv := fun p : Wd [] wr => HCV2.out p
        clear hUb
        go_wp2_with fail
        refine hK _ _ ⟨⟨_, HUb.out⟩, rfl⟩ ?_
        clear hK K QF
        refine mix_quiet [false, false, false, false, false, true, true, false, false, true, true] 5 rfl (by kernel_rfl) (by kernel_rfl) (by kernel_rfl) (by kernel_rfl) ⟨⟨_, HUb.out⟩, rfl⟩ ?_
        simp only [maskL]
        repeat (go_big_quiet_step (fail))
        refine wpQuiet_nil ?_
        clear hcv
        refine mix_one 7 (by kernel_rfl) (by kernel_rfl) rfl ?_
        intro K QF hK
        go_wp2_with fail
        refine HBF.out.mono ?_
        rintro e wc ⟨vc, rfl, hrow, hUc⟩
        obtain ⟨Bc, cc, rfl, _, _, _⟩ := hrow.shape
        have HUc := Lib.hid (HUb.out.then hUc)
        have hcv := fun p : Wd [] wc => row_str ((hrow.upd0 p.h).row) hlb
        rw [← HSB.out] at hcv
        clear hUc hrow HBF
        go_wp2_with fail
        refine hK _ _ ⟨⟨_, HUc.out⟩, rfl⟩ ?_
        clear hK K QF
        refine mix_sub (fun w' => ∃ p : Wd [] wc, w' = p.v) (wd_sub HUc.out (by simp)) ?_
        refine mix_quiet [false, false, false, false, false, false, false, false, true] 3 rfl (by kernel_rfl) (by kernel_rfl) (by kernel_rfl) (by kernel_rfl) ⟨⟨_, Upd.refl [] wc⟩, rfl⟩ ?_
        simp only [maskL]
        repeat (go_big_quiet_step (fail))
        refine wpQuiet_nil ?_
        clear hcv
        refine mix_tail (by kernel_rfl) (by kernel_rfl) ?_
        simp only [List.drop_succ_cons, List.drop_zero]
        go_wp2
        go_ret
        exact ⟨rfl, HUr.out.then HUc.out⟩
end Go.Proofs.Ytdjpcinibgbglaa
