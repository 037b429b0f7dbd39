/- The law ArchiveOwn. -/
import Derived.Test.YtdjpcinibgbglaaLawTold
import Derived.Test.YtdjpcinibgbglaaSame
set_option linter.unusedVariables false
set_option linter.unusedSimpArgs false
namespace Go.Proofs.Ytdjpcinibgbglaa
open Go.RowKit Go.Sort
theorem own_set {w : World} {base n cap g size : Nat} {e : TypeId} {xs : List Value} (h : w.ownsRow base e size (.slice (some ⟨g, 0, none⟩) n cap) n xs) {j : Nat} (hj : j < xs.length) (u : Value) : (w.setCell ⟨g, j, none⟩ u).ownsRow base e size (.slice (some ⟨g, 0, none⟩) n cap) n (xs.set j u) := by
  obtain ⟨h1, h2⟩ := h
  rcases h2 with ⟨h2, _⟩ | ⟨g', cap', cur, e1, hb, hg, r1, r2, r3, r4⟩
  · cases h2
  · injection e1 with e1 e2 e3
    injection e1 with e1
    injection e1 with e1 _ _
    subst e1 e3
    have hB : HB w g e cur.toList := by unfold HB; rw [Array.toArray_toList]; exact hg
    have hs := hB.set j u
    refine ⟨by rw [List.length_set]; exact h1, .inr ⟨g, cap, (cur.toList.set j u).toArray, rfl, hb, hs, r1, r2, by simpa using r3, ?_⟩⟩
    show (cur.toList.set j u).take (n * size) = _
    rw [List.take_set, r4]
theorem row_news {α : Type} {w : World} {F : Nat → Prop} (enc : α → List Value) {k : Nat} (hk : ∀ x, (enc x).length = k) (h0 : 0 < k) {A : Option Addr} {n c : Nat} {xs : List α} (h : RowK w F enc k (.slice A n c) xs) :
    ∀ j u, (xs.flatMap enc)[j]? = some u → ∃ b o, A = some ⟨b, o, none⟩ ∧ w.cell? ⟨b, o + j, none⟩ = some u := by
  intro j u hj
  have hlt : j < (xs.flatMap enc).length := (List.getElem?_eq_some_iff.1 hj).1
  rw [flat_length enc k hk] at hlt
  have hi : j / k < xs.length := Nat.div_lt_of_lt_mul (by rw [Nat.mul_comm]; exact hlt)
  have hr : j % k < (enc xs[j / k]).length := by rw [hk]; exact Nat.mod_lt _ h0
  have hx : xs[j / k]? = some xs[j / k] := List.getElem?_eq_getElem hi
  have hu := flatMap_get enc hk xs (j / k) _ hx (j % k) _ (List.getElem?_eq_getElem hr)
  rw [Nat.mul_comm, Nat.div_add_mod, hj] at hu
  obtain ⟨b, o, hA, _, hc⟩ := h.at_ hx
  have h1 := hc (j % k) _ (List.getElem?_eq_getElem hr)
  rw [Nat.add_assoc, Nat.mul_comm, Nat.div_add_mod, ← hu] at h1
  exact ⟨b, o, hA, h1⟩
theorem own_lt2 {w : World} {base : Nat} {e : TypeId} {size n : Nat} {v : Value} {xs : List Value} (h : w.ownsRow base e size v n xs) (g : Nat) (hg : v.ownBlock = some g) : g < w.heap.size := by
  rcases h.2 with ⟨rfl, _⟩ | ⟨g', cap', cur, rfl, _, hb, _⟩
  · cases hg
  · injection hg with hg
    subst hg
    exact lt_of_block hb
theorem brow_open {f : Fl} (hf : f.ok) {w : World} {base cap : Nat} {B : Option Addr} (h : BRow w base (.slice B f.bytes.length cap) f.bytes) :
    Calls Try.prog 28 #[.slice B f.bytes.length cap] w fun e w' => ∃ (base fb : Nat) (bv : Value) (Ls : List Loc), e = .returned (.tuple #[.pointer (some ⟨fb, 0, none⟩), .int .i64 0, .int .i64 0]) ∧ w.heap.size ≤ base ∧ base ≤ fb ∧ FileAt w' base fb f bv Ls ∧ Upd [] w w' := by
  have hrow2 : RowK w (fun b => b < w.heap.size) bc 1 (.slice B f.bytes.length cap) f.bytes := by
    obtain ⟨A, c', h1, h2, h3, h4, h5⟩ := h.row
    refine ⟨A, c', h1, h2, h3, h4, fun i y hy => ?_⟩
    obtain ⟨b, o, r1, r2, r3⟩ := h5 i y hy
    exact ⟨b, o, r1, World.block_lt_of_cell? _ _ (r3 0 _ rfl), r3⟩
  have ho := open_calls _ _ _ _ hrow2 (bytes_byt hf) (by have := bytes_le hf; omega) (fun b hb => hb)
  rw [openP_bytes hf] at ho
  exact ho
theorem bytes_len14 (f : Fl) : 14 ≤ f.bytes.length := by
  unfold Fl.bytes Fl.body
  simp only [List.length_append, List.length_cons, List.length_nil, highL_len]
  omega
theorem own_HB {w : World} {base n cap g size : Nat} {e : TypeId} {xs : List Value} (h : w.ownsRow base e size (.slice (some ⟨g, 0, none⟩) n cap) n xs) : ∃ cs, HB w g e cs := by
  rcases h.2 with ⟨h1, _⟩ | ⟨g', cap', cur, h1, hb, hg, _⟩
  · cases h1
  · injection h1 with h1
    injection h1 with h1
    injection h1 with h1
    subst h1
    exact ⟨cur.toList, by unfold HB; rw [Array.toArray_toList]; exact hg⟩
set_option maxRecDepth 20000 in
set_option maxHeartbeats 4000000 in
theorem ownLaw_calls (c0 : List Value) (x0 : GT.den (.slice gSpec)) (c1 : List Value) (x1 : GT.den gI) (c2 : List Value) (x2 : GT.den gI) (c3 : List Value) (x3 : GT.den (.slice gOp)) (W : World) (h0 : Rd W (· < W.heap.size) (.slice gSpec) c0 x0) (h1 : Rd W (· < W.heap.size) gI c1 x1) (h2 : Rd W (· < W.heap.size) gI c2 x2) (h3 : Rd W (· < W.heap.size) (.slice gOp) c3 x3) (hl0 : x0.length * 16 ≤ 140737488355328) :
    Calls Try.prog 10 #[GT.val (.slice gSpec) c0, GT.val gI c1, GT.val gI c2, GT.val (.slice gOp) c3] W fun e w' => e = .returned (.bool true) ∧ Upd [] W w' := by
  obtain ⟨v, rfl, hr, hs⟩ := spec_row h0
  obtain ⟨rfl, hm⟩ := open_i64 h1
  obtain ⟨rfl, hx⟩ := open_i64 h2
  obtain ⟨vs, rfl, ho, hok⟩ := op_row h3
  have hl1 : (x0.map toSpc).length * 16 ≤ 140737488355328 := by rw [List.length_map]; exact hl0
  show Calls Try.prog 10 #[v, .int .i64 x1, .int .i64 x2, vs] W _
  clear h0 h1 h2 h3 hl0
  generalize x1 = m at *
  generalize x2 = x at *
  generalize x0.map toSpc = l at *
  generalize x3.map toOp = ops at *
  obtain ⟨A, c, rfl, hc1, hc2, hc3⟩ := hr.shape
  have hlm := Nat.le_trans hc1 (Nat.le_trans hc2 maxLen_le)
  have HN := Lib.hid (show ∀ j u, (l.flatMap spcC)[j]? = some u → ∃ b o, A = some ⟨b, o, none⟩ ∧ W.cell? ⟨b, o + j, none⟩ = some u from row_news spcC (fun _ => rfl) (by decide) hr)
  have HR := Lib.hid hr
  have HL := Lib.hid (show (0 + l.length) * 16 ≤ 140737488355328 by omega)
  have HS := Lib.hid hs
  have HO := Lib.hid ho
  have HOK := Lib.hid hok
  have HCC := Lib.hid (And.intro hc1 hc3)
  clear hr hs ho hok hc1 hc2 hc3 hl1 hm hx
  go_enter Try.func10, Try.ntmps10
  go_wp2_with (at_builtin; go_must (refine wp_appendN W.heap.size 22 44 _ 2 16 (.slice none 0 0) 0 [] A l.length c (l.flatMap spcC) rfl rfl (by kernel_rfl) infoSp rfl (by decide) (by decide) rfl rfl HCC.out.2 HCC.out.1 (by rw [flat_length spcC 2 (fun _ => rfl)]) HN.out (fun u hu => by obtain ⟨s, _, hs⟩ := List.mem_flatMap.1 hu; exact spc_one s u hs) ⟨rfl, .inl ⟨rfl, rfl⟩⟩ (Nat.le_refl _) HL.out ?_))
  intro v1 w1 hown hU1 hat
  have hU1 : Upd [] W w1 := by simpa [Value.ownBlock] using hU1
  have HR1 := Lib.hid ((own_row (enc := spcC) (fun _ => rfl) (by decide) hown).2)
  have HUR1 := Lib.hid hU1
  have HRA := Lib.hid (HR.out.upd0 hU1)
  have HO1 := Lib.hid hown
  obtain ⟨B, cap, rfl, hb1, hb2, hb3⟩ := own_shape hown
  have hlb := Nat.le_trans hb1 (Nat.le_trans hb2 maxLen_le)
  clear hown hU1 hat hb1 hb2 hb3
  by_cases hc : creErr l m x = 0
  · have HMD := Lib.hid (lmade_ok _ _ _ vs l m x ops w1 HR1.out HS.out hc (HO.out.upd0 HUR1.out) HOK.out)
    have HSP := Lib.hid (show (ups (newF l m x) ops).bands.map Band.spc = l by rw [ups_spc, newF_spc (creErr_ok hc).1])
    obtain ⟨f, hf⟩ : ∃ f, f = ups (newF l m x) ops := ⟨_, rfl⟩
    rw [← hf] at HMD HSP
    have hl0 : 0 < l.length := by
      cases l with
      | nil => exact absurd hc (by simp [creErr, check])
      | cons s l => simp
    clear hc hf
    go_wp2_with fail
    refine HMD.out.mono ?_
    rintro e w2 ⟨fb, bv, Ls, rfl, hfb, hF, hfo, hU2⟩
    have HF := Lib.hid hF
    have HFO := Lib.hid hfo
    have HU2 := Lib.hid (HUR1.out.then hU2)
    have HSS := Lib.hid (sameSpecs_true _ _ _ _ l w2 (HR1.out.upd0 hU2) (HRA.out.upd0 hU2))
    have HO2 := Lib.hid (own_upd HO1.out hU2 (by simp))
    have hsz2 := hU2.size
    clear hF hfo hU2 HMD hfb
    go_wp2_with fail
    refine HSS.out.mono ?_
    rintro e w3 ⟨rfl, hU3⟩
    have HF3 := Lib.hid (HF.out.upd0 hU3)
    have HU3 := Lib.hid (HU2.out.then hU3)
    have HO3 := Lib.hid (own_upd HO2.out hU3 (by simp))
    have hsz3 := hU3.size
    clear HF hU3 HSS
    obtain ⟨g, hB, _, hgW⟩ := own_cell HO3.out 0 _ (List.getElem?_eq_getElem (by rw [flat_length spcC 2 (fun _ => rfl)]; omega))
    subst hB
    have hgw1 : g < w1.heap.size := by
      obtain ⟨g', hB, hcell, _⟩ := own_cell HO1.out 0 _ (List.getElem?_eq_getElem (by rw [flat_length spcC 2 (fun _ => rfl)]; omega))
      injection hB with hB
      injection hB with hB
      subst hB
      exact World.block_lt_of_cell? _ _ hcell
    have HG := Lib.hid (own_HB HO3.out)
    go_wp2_with fail
    go_loopw [13] (fun iv wr => ∃ (k : Nat) (ys : List Value), k ≤ l.length ∧ iv = .int .i64 (k : Int) ∧ wr.ownsRow W.heap.size 44 2 (.slice (some ⟨g, 0, none⟩) l.length cap) l.length ys ∧ Upd [g] w3 wr) (fun iv _ => l.length - (intOf iv).toNat)
    case atStart => exact ⟨0, _, Nat.zero_le _, rfl, HO3.out, Upd.refl _ _⟩
    case round =>
      obtain ⟨k, ys, hk, rfl, hO, hU⟩ := hrel
      have HW := Lib.hid hO
      have HU := Lib.hid hU
      clear hU
      by_cases hlt : k < l.length
      · have hyl : ys.length = l.length * 2 := hO.1
        obtain ⟨y0, hy0⟩ : ∃ y, ys[k * 2]? = some y := ⟨_, List.getElem?_eq_getElem (show k * 2 < ys.length by omega)⟩
        obtain ⟨_, hA0, s0, _⟩ := own_cell HW.out (k * 2) _ hy0
        injection hA0 with hA0
        injection hA0 with hA0 _ _
        subst hA0
        have f0 := own_free HW.out (k * 2)
        clear hy0
        obtain ⟨y1, hy1⟩ : ∃ y, ys[k * 2 + 1]? = some y := ⟨_, List.getElem?_eq_getElem (show k * 2 + 1 < ys.length by omega)⟩
        obtain ⟨_, hA1, s1, _⟩ := own_cell HW.out (k * 2 + 1) _ hy1
        injection hA1 with hA1
        injection hA1 with hA1 _ _
        subst hA1
        have f1 := own_free HW.out (k * 2 + 1)
        clear hy1
        have hkI : (k : Int) < (l.length : Int) := by omega
        have hms : l.length - (k + 1) < l.length - k := by omega
        have HW2 := Lib.hid (own_set (own_set (HW.out) (j := k * 2) (by first | omega | (simp only [List.length_set]; omega)) (.int .i64 7)) (j := k * 2 + 1) (by first | omega | (simp only [List.length_set]; omega)) (.int .i64 7))
        have HU2 := Lib.hid (((HU.out).setCell (p := ⟨g, k * 2, none⟩) (.inl (by simp)) (.int .i64 7)).setCell (p := ⟨g, k * 2 + 1, none⟩) (.inl (by simp)) (.int .i64 7))
        clear hO hyl
        go_wp2
        exact ⟨⟨k + 1, _, hlt, rfl, HW2.out, HU2.out⟩, by simp [intOf]; omega⟩
      · obtain rfl : k = l.length := by omega
        clear hO hlt hk
        have HF4 := Lib.hid (HG.out.elim fun cs hg => HF3.out.upd_ty hg (by decide) (by decide) hgw1 HU.out)
        have HU4 := Lib.hid (HU3.out.trans HU.out (fun _ h => h) (fun i hi => .inr (by simp at hi; subst hi; exact hgW)))
        have HR4 := Lib.hid (HR.out.upd0 HU4.out)
        generalize wr = w4 at *
        clear HW HU HO3 HU3 HF3 HG HR1 HRA HO1 HO2 HUR1 HU2 hsz2 hsz3 HO HOK HS HN HCC HL hgw1 hgW
        have HBC := Lib.hid (bytes_calls w1.heap.size fb f bv Ls w4 HF4.out HFO.out)
        go_wp2_with fail
        refine HBC.out.mono ?_
        rintro e w5 ⟨vb, rfl, hrow, hU5⟩
        obtain ⟨B5, c5, rfl, hq1, hq2, hq3⟩ := hrow.shape
        have hnb : 14 ≤ f.bytes.length ∧ f.bytes.length ≤ 9223372036854775807 := ⟨bytes_len14 f, Nat.le_trans hq1 (Nat.le_trans hq2 maxLen_le)⟩
        have HNB := Lib.hid hnb
        have hcv := row_str hrow.row (by omega)
        obtain ⟨S0, hS0⟩ : ∃ S0, S0 = strOfNums f.bytes := ⟨_, rfl⟩
        rw [← hS0] at hcv
        have HS0 := Lib.hid hS0
        have HU5 := Lib.hid (HU4.out.then hU5)
        have HF5 := Lib.hid (HF4.out.upd0 hU5)
        have HR5 := Lib.hid (HR4.out.upd0 hU5)
        have HBC5 := Lib.hid (bytes_calls w1.heap.size fb f bv Ls w5 HF5.out HFO.out)
        clear hS0 hU5 hrow hq1 hq2 hq3 HF4 HU4 HR4 HBC hnb
        go_wp2_with fail
        refine HBC5.out.mono ?_
        rintro e w6 ⟨vc, rfl, hrow, hU6⟩
        obtain ⟨B6, c6, rfl, _, _, _⟩ := hrow.shape
        have HC6 := Lib.hid hrow
        have HU6 := Lib.hid hU6
        have HIC := Lib.hid (info_calls w1.heap.size fb f bv Ls w6 (HF5.out.upd0 hU6) HFO.out)
        have hsz6 := hU6.size
        clear hU6 hrow HBC5 hcv
        go_wp2_with fail
        refine HIC.out.mono ?_
        rintro e w7 ⟨vs2, rfl, hown7, hU7⟩
        obtain ⟨b0, hb0⟩ : ∃ b0, f.bands[0]? = some b0 := ⟨_, List.getElem?_eq_getElem (List.length_pos_iff.2 HFO.out.ne)⟩
        have HU7 := Lib.hid hU7
        have HPC := Lib.hid (pointsF_in w1.heap.size fb f bv Ls 0 b0 w7 (HF5.out.upd0 (HU6.out.then hU7)) HFO.out hb0)
        have HO7 := Lib.hid hown7
        have hsz7 := hU7.size
        clear hU7 hown7 hb0 HIC
        go_wp2_with fail
        refine HPC.out.mono ?_
        rintro e w8 ⟨vp, lp, rfl, hperm, _, hown8, hU8⟩
        obtain ⟨B7, c7, rfl, _, _, _⟩ := own_shape HO7.out
        obtain ⟨B8, c8, rfl, hp1, hp2, _⟩ := own_shape hown8
        have hlp := Nat.le_trans hp1 (Nat.le_trans hp2 maxLen_le)
        clear hp1 hp2
        have HO8 := Lib.hid hown8
        have HU8 := Lib.hid hU8
        have hsz8 := hU8.size
        clear hperm hown8 hU8 HPC
        go_wp2_with fail
        obtain ⟨W9, hW9⟩ : ∃ W9, W9 = w8.alloc (.cells (infC f.m f.xff (.slice B7 f.bands.length c7)).toArray 35) := ⟨_, rfl⟩
        have HIB := Lib.hid (show HB W9 w8.heap.size 35 (infC f.m f.xff (.slice B7 f.bands.length c7)) from by rw [hW9]; exact HB.new _ _ _)
        have HU9 := Lib.hid (show Upd [] w8 W9 from by rw [hW9]; exact (Upd.refl _ _).alloc _)
        rw [← hW9]
        have HO7' := Lib.hid (own_upd HO7.out (HU8.out.then HU9.out) (by simp))
        have HO8' := Lib.hid (own_upd HO8.out HU9.out (by simp))
        have HC9 := Lib.hid (HC6.out.upd0 (HU7.out.then (HU8.out.then HU9.out)))
        have HU59 := Lib.hid (HU6.out.then (HU7.out.then (HU8.out.then HU9.out)))
        have hbl : f.bands.length ≤ 9223372036854775807 := by have := HFO.out.le; omega
        clear hW9 HU9 HU8 HU7 HU6
        go_loopw [18] (fun iv wr => ∃ (k : Nat) (ys : List Value), k ≤ f.bands.length ∧ iv = .int .i64 (k : Int) ∧ wr.ownsRow w6.heap.size 44 2 (.slice B7 f.bands.length c7) f.bands.length ys ∧ Upd (Value.slice B7 f.bands.length c7).ownBlock.toList W9 wr) (fun iv _ => f.bands.length - (intOf iv).toNat)
        case atStart => exact ⟨0, _, Nat.zero_le _, rfl, HO7'.out, Upd.refl _ _⟩
        case round =>
          obtain ⟨k, ys, hk, rfl, hO, hU⟩ := hrel
          have HW := Lib.hid hO
          have HU := Lib.hid hU
          have z2 := (HIB.out.upd HU.out (own_notin' HO7'.out HIB.out (by decide))).cell (j := 2) rfl
          clear hU
          by_cases hlt : k < f.bands.length
          · have hyl : ys.length = f.bands.length * 2 := hO.1
            obtain ⟨y0, hy0⟩ : ∃ y, ys[k * 2]? = some y := ⟨_, List.getElem?_eq_getElem (show k * 2 < ys.length by omega)⟩
            obtain ⟨gg, hA0, s0, _⟩ := own_cell HW.out (k * 2) _ hy0
            subst hA0
            have f0 := own_free HW.out (k * 2)
            clear hy0
            obtain ⟨y1, hy1⟩ : ∃ y, ys[k * 2 + 1]? = some y := ⟨_, List.getElem?_eq_getElem (show k * 2 + 1 < ys.length by omega)⟩
            obtain ⟨_, hA1, s1, _⟩ := own_cell HW.out (k * 2 + 1) _ hy1
            injection hA1 with hA1
            injection hA1 with hA1 _ _
            subst hA1
            have f1 := own_free HW.out (k * 2 + 1)
            clear hy1
            have hkI : (k : Int) < (f.bands.length : Int) := by omega
            have hms : f.bands.length - (k + 1) < f.bands.length - k := by omega
            have HW2 := Lib.hid (own_set (own_set (HW.out) (j := k * 2) (by first | omega | (simp only [List.length_set]; omega)) (.int .i64 0)) (j := k * 2 + 1) (by first | omega | (simp only [List.length_set]; omega)) (.int .i64 0))
            have HU2 := Lib.hid (((HU.out).setCell (p := ⟨gg, k * 2, none⟩) (.inl (by simp [Value.ownBlock])) (.int .i64 0)).setCell (p := ⟨gg, k * 2 + 1, none⟩) (.inl (by simp [Value.ownBlock])) (.int .i64 0))
            clear hO hyl
            go_wp2
            exact ⟨⟨k + 1, _, hlt, rfl, HW2.out, HU2.out⟩, by simp [intOf]; omega⟩
          · obtain rfl : k = f.bands.length := by omega
            clear hO hlt hk
            have HO8'' := Lib.hid (own_upd HO8'.out HU.out (own_ne2 HO7'.out HO8'.out (by decide)))
            have HC10 := Lib.hid (own_upd HC9.out HU.out (own_ne2 HO7'.out HC9.out (by decide)))
            have HU510 := Lib.hid (HU59.out.trans HU.out (fun _ h => h) (fun i hi => .inr (by have := own_base HO7'.out i (by simpa using hi); omega)))
            clear HW HU HO8' HC9 HU59 HO7' HO7 HO8 HC6 HIB
            generalize wr = w10 at *
            go_wp2_with fail
            clear z2
            go_loopw [19] (fun iv wr => ∃ (k : Nat) (ys : List Value), k ≤ lp.length ∧ iv = .int .i64 (k : Int) ∧ wr.ownsRow w7.heap.size 49 3 (.slice B8 lp.length c8) lp.length ys ∧ Upd (Value.slice B8 lp.length c8).ownBlock.toList w10 wr) (fun iv _ => lp.length - (intOf iv).toNat)
            case atStart => exact ⟨0, _, Nat.zero_le _, rfl, HO8''.out, Upd.refl _ _⟩
            case round =>
              obtain ⟨k, ys, hk, rfl, hO, hU⟩ := hrel
              have HW := Lib.hid hO
              have HU := Lib.hid hU
              clear hU
              by_cases hlt : k < lp.length
              · have hyl : ys.length = lp.length * 3 := hO.1
                obtain ⟨y0, hy0⟩ : ∃ y, ys[k * 3]? = some y := ⟨_, List.getElem?_eq_getElem (show k * 3 < ys.length by omega)⟩
                obtain ⟨gg, hA0, s0, _⟩ := own_cell HW.out (k * 3) _ hy0
                subst hA0
                have f0 := own_free HW.out (k * 3)
                clear hy0
                obtain ⟨y1, hy1⟩ : ∃ y, ys[k * 3 + 1]? = some y := ⟨_, List.getElem?_eq_getElem (show k * 3 + 1 < ys.length by omega)⟩
                obtain ⟨_, hA1, s1, _⟩ := own_cell HW.out (k * 3 + 1) _ hy1
                injection hA1 with hA1
                injection hA1 with hA1 _ _
                subst hA1
                have f1 := own_free HW.out (k * 3 + 1)
                clear hy1
                obtain ⟨y2, hy2⟩ : ∃ y, ys[k * 3 + 2]? = some y := ⟨_, List.getElem?_eq_getElem (show k * 3 + 2 < ys.length by omega)⟩
                obtain ⟨_, hA2, s2, _⟩ := own_cell HW.out (k * 3 + 2) _ hy2
                injection hA2 with hA2
                injection hA2 with hA2 _ _
                subst hA2
                have f2 := own_free HW.out (k * 3 + 2)
                clear hy2
                have hkI : (k : Int) < (lp.length : Int) := by omega
                have hms : lp.length - (k + 1) < lp.length - k := by omega
                have HW2 := Lib.hid (own_set (own_set (own_set (HW.out) (j := k * 3) (by first | omega | (simp only [List.length_set]; omega)) (.int .i64 (-1))) (j := k * 3 + 1) (by first | omega | (simp only [List.length_set]; omega)) (.int .i64 0)) (j := k * 3 + 2) (by first | omega | (simp only [List.length_set]; omega)) (.int .u64 0))
                have HU2 := Lib.hid ((((HU.out).setCell (p := ⟨gg, k * 3, none⟩) (.inl (by simp [Value.ownBlock])) (.int .i64 (-1))).setCell (p := ⟨gg, k * 3 + 1, none⟩) (.inl (by simp [Value.ownBlock])) (.int .i64 0)).setCell (p := ⟨gg, k * 3 + 2, none⟩) (.inl (by simp [Value.ownBlock])) (.int .u64 0))
                clear hO hyl
                go_wp2
                exact ⟨⟨k + 1, _, hlt, rfl, HW2.out, HU2.out⟩, by simp [intOf]; omega⟩
              · obtain rfl : k = lp.length := by omega
                clear hO hlt hk
                have HC11 := Lib.hid (own_upd HC10.out HU.out (own_ne2 HO8''.out HC10.out (by decide)))
                have HU511 := Lib.hid (HU510.out.trans HU.out (fun _ h => h) (fun i hi => .inr (by have := own_base HO8''.out i (by simpa using hi); omega)))
                clear HW HU HC10 HU510 HO8''
                generalize wr = w11 at *
                have HOP := Lib.hid (brow_open HFO.out HC11.out)
                go_wp2_with fail
                refine HOP.out.mono ?_
                rintro e w12 ⟨base2, fb2, bv2, Ls2, rfl, hb1, hb2, hF2, hU12⟩
                have HC12 := Lib.hid (own_upd HC11.out hU12 (by simp))
                have HU512 := Lib.hid (HU511.out.then hU12)
                have HF2 := Lib.hid hF2
                have HB1 := Lib.hid hb1
                have HCL := Lib.hid (fun g hg => own_lt2 HC11.out g hg)
                have hnl := HNB.out.2
                clear hU12 hF2 hb1 hb2 HOP HC11 HU511
                go_wp2_with fail
                go_loopw [23] (fun iv wr => ∃ (k : Nat) (ys : List Value), k ≤ f.bytes.length ∧ iv = .int .i64 (k : Int) ∧ wr.ownsRow w5.heap.size 5 1 (.slice B6 f.bytes.length c6) f.bytes.length ys ∧ Upd (Value.slice B6 f.bytes.length c6).ownBlock.toList w12 wr) (fun iv _ => f.bytes.length - (intOf iv).toNat)
                case atStart => exact ⟨0, _, Nat.zero_le _, rfl, HC12.out, Upd.refl _ _⟩
                case round =>
                  obtain ⟨k, ys, hk, rfl, hO, hU⟩ := hrel
                  have HW := Lib.hid hO
                  have HU := Lib.hid hU
                  clear hU
                  by_cases hlt : k < f.bytes.length
                  · have hyl : ys.length = f.bytes.length * 1 := hO.1
                    obtain ⟨y0, hy0⟩ : ∃ y, ys[k]? = some y := ⟨_, List.getElem?_eq_getElem (show k < ys.length by omega)⟩
                    obtain ⟨gg, hA0, s0, _⟩ := own_cell HW.out (k) _ hy0
                    subst hA0
                    have f0 := own_free HW.out (k)
                    clear hy0
                    have hkI : (k : Int) < (f.bytes.length : Int) := by omega
                    have hms : f.bytes.length - (k + 1) < f.bytes.length - k := by omega
                    have HW2 := Lib.hid (own_set (HW.out) (j := k) (by first | omega | (simp only [List.length_set]; omega)) (.int .u8 1))
                    have HU2 := Lib.hid ((HU.out).setCell (p := ⟨gg, k, none⟩) (.inl (by simp [Value.ownBlock])) (.int .u8 1))
                    clear hO hyl
                    go_wp2
                    exact ⟨⟨k + 1, _, hlt, rfl, HW2.out, HU2.out⟩, by simp [intOf]; omega⟩
                  · obtain rfl : k = f.bytes.length := by omega
                    clear hO hlt hk
                    have HU513 := Lib.hid (HU512.out.trans HU.out (fun _ h => h) (fun i hi => .inr (own_base HC12.out i (by simpa using hi))))
                    have HF2' := Lib.hid (HF2.out.upd_lo HU.out (fun x hx => Nat.lt_of_lt_of_le (HCL.out x (by simpa using hx)) HB1.out) (own_notin' HC12.out HF2.out.hf (by decide)) (fun k L hL => own_notin' HC12.out (HF2.out.band k L _ hL (List.getElem?_eq_getElem (by have := (List.getElem?_eq_some_iff.1 hL).1; have := HF2.out.len; omega))).hb (by decide)))
                    clear HW HU HC12 HU512 HF2 HCL HB1
                    generalize wr = w13 at *
                    have HF13 := Lib.hid (HF5.out.upd0 HU513.out)
                    have HR13 := Lib.hid (HR5.out.upd0 HU513.out)
                    have HU13 := Lib.hid (HU5.out.then HU513.out)
                    have HBF := Lib.hid (bytes_calls w1.heap.size fb f bv Ls w13 HF13.out HFO.out)
                    have h0 : 0 < f.bytes.length := by have := HNB.out.1; omega
                    clear HF5 HR5 HU5 HU513 hnl
                    go_wp2_with fail
                    refine HBF.out.mono ?_
                    rintro e w14 ⟨v14, rfl, hrow, hU14⟩
                    obtain ⟨B14, c14, rfl, _, _, _⟩ := hrow.shape
                    have hcv := row_str hrow.row h0
                    rw [← HS0.out] at hcv
                    have HU14 := Lib.hid hU14
                    have HBG := Lib.hid (bytes_calls base2 fb2 f bv2 Ls2 w14 (HF2'.out.upd0 hU14) HFO.out)
                    clear hU14 hrow HBF
                    go_wp2_with fail
                    refine HBG.out.mono ?_
                    rintro e w15 ⟨v15, rfl, hrow, hU15⟩
                    obtain ⟨B15, c15, rfl, _, _, _⟩ := hrow.shape
                    clear hcv
                    have hcv := row_str hrow.row h0
                    rw [← HS0.out] at hcv
                    have HU15 := Lib.hid (HU14.out.then hU15)
                    have HIC := Lib.hid (info_calls w1.heap.size fb f bv Ls w15 (HF13.out.upd0 HU15.out) HFO.out)
                    clear hU15 hrow HBG HU14
                    go_wp2_with fail
                    refine HIC.out.mono ?_
                    rintro e w16 ⟨v16, rfl, hown, hU16⟩
                    obtain ⟨B16, c16, rfl, _, _, _⟩ := own_shape hown
                    have HU16 := Lib.hid (HU15.out.then hU16)
                    have HSS := Lib.hid (sameSpecs_true _ _ _ _ l w16 (by rw [← HSP.out]; exact (own_row (enc := spcC) (fun _ => rfl) (by decide) hown).2) (HR13.out.upd0 HU16.out))
                    have hfd : ∀ w : World, (Instr.field 35 (.agg #[.int .i64 f.m, .int .i64 f.xff, .slice B16 f.bands.length c16]) 2).run Try.prog w = .ok (.slice B16 f.bands.length c16) w := fun _ => by kernel_rfl
                    clear hU16 hown HIC hcv HU15
                    go_wp2_with fail
                    refine HSS.out.mono ?_
                    rintro e w17 ⟨rfl, hU17⟩
                    have HU17 := Lib.hid (HU13.out.then (HU16.out.then hU17))
                    clear hU17 HSS HU16 HU13
                    go_wp2_with fail
                    refine (alive_calls _).mono ?_
                    rintro e w18 ⟨rfl, hU18⟩
                    have HU18 := Lib.hid (HU17.out.then hU18)
                    clear hU18
                    go_wp2
                    go_ret
                    exact ⟨rfl, HU18.out⟩
  · have HMD := Lib.hid (lmade_no _ (· < W.heap.size) _ vs l m x ops w1 HR1.out HS.out hc)
    have HSS := Lib.hid (fun w2 (hU2 : Upd [] w1 w2) => sameSpecs_true _ _ _ _ l w2 (HR1.out.upd0 hU2) (HRA.out.upd0 hU2))
    have HRC := Lib.hid (fun w (hw : Upd [] W w) => rcre_no _ _ l m x w (HR.out.upd0 hw) HS.out hc)
    have hne : (creErr l m x != 0) = true := by simpa using hc
    generalize creErr l m x = r at *
    clear hc
    go_wp2_with fail
    refine HMD.out.mono ?_
    rintro e w2 ⟨rfl, hU2⟩
    have HU2 := Lib.hid hU2
    clear hU2
    go_wp2_with fail
    refine (HSS.out _ HU2.out).mono ?_
    rintro e w3 ⟨rfl, hU3⟩
    have HU3 := Lib.hid (HUR1.out.then (HU2.out.then hU3))
    clear hU3
    go_wp2_with fail
    refine (HRC.out _ HU3.out).mono ?_
    rintro e w4 ⟨rfl, hU4⟩
    have HU4 := Lib.hid (HU3.out.then hU4)
    clear hU4
    go_wp2_with fail
    refine (alive_calls _).mono ?_
    rintro e w5 ⟨rfl, hU5⟩
    have HU5 := Lib.hid ((HU4.out.alloc (.cells #[.int .i64 0, .int .i64 0, .slice none 0 0, .slice none 0 0] 38)).then hU5)
    clear hU5
    go_wp2
    go_ret
    exact ⟨rfl, HU5.out⟩
theorem archiveOwn_calls (c0 : List Value) (x0 : GT.den (.slice gSpec)) (c1 : List Value) (x1 : GT.den gI) (c2 : List Value) (x2 : GT.den gI) (c3 : List Value) (x3 : GT.den (.slice gOp)) (W : World) (h0 : Rd W (· < W.heap.size) (.slice gSpec) c0 x0) (h1 : Rd W (· < W.heap.size) gI c1 x1) (h2 : Rd W (· < W.heap.size) gI c2 x2) (h3 : Rd W (· < W.heap.size) (.slice gOp) c3 x3) (hl0 : x0.length * 16 ≤ 140737488355328) :
    Calls Try.prog 10 #[GT.val (.slice gSpec) c0, GT.val gI c1, GT.val gI c2, GT.val (.slice gOp) c3] W fun e w' => e = .returned (.bool true) ∧ Upd [] W w' := ownLaw_calls c0 x0 c1 x1 c2 x2 c3 x3 W h0 h1 h2 h3 hl0
end Go.Proofs.Ytdjpcinibgbglaa
