/- tumblerref08.Sorted: each tally put in its place, one behind the other. -/
import Derived.Test.YthbjpoiolmlpmaaRow
import Derived.Test.YthbjpoiolmlpmaaTC
set_option linter.unusedVariables false
set_option linter.unusedSimpArgs false
namespace Go.Proofs.Ythbjpoiolmlpmaa
open Go.RowKit

/-- One step of the inner loop: what has been gathered, and whether x stands in it. -/
def insStep (x : TC) (s : List TC × Bool) (y : TC) : List TC × Bool := if (!s.2 && ltT x y) = true then (s.1 ++ [x] ++ [y], true) else (s.1 ++ [y], s.2)
def insPart (x : TC) (l : List TC) : List TC × Bool := l.foldl (insStep x) ([], false)
def insFin (x : TC) (l : List TC) : List TC := if (insPart x l).2 = true then (insPart x l).1 else (insPart x l).1 ++ [x]
def sortedT (l : List TC) : List TC := l.foldl (fun out x => insFin x out) []

theorem insPart_snoc (x : TC) (l : List TC) (y : TC) : insPart x (l ++ [y]) = insStep x (insPart x l) y := by simp [insPart]
theorem take_snoc' {α : Type} {l : List α} {k : Nat} {y : α} (h : l[k]? = some y) : l.take (k + 1) = l.take k ++ [y] := by
  rw [List.take_add_one, h]; rfl
theorem insPart_lenR (x : TC) : ∀ l : List TC, (insPart x l.reverse).1.length ≤ l.length + 1 ∧ ((insPart x l.reverse).2 = false → (insPart x l.reverse).1.length = l.length) ∧ ((insPart x l.reverse).2 = true → (insPart x l.reverse).1.length = l.length + 1)
  | [] => by simp [insPart]
  | y :: l => by
    have ih := insPart_lenR x l
    rw [List.reverse_cons, insPart_snoc]
    unfold insStep
    split
    · rename_i h
      simp at h
      have := ih.2.1 h.1
      simp
      omega
    · refine ⟨by simp; omega, fun h => ?_, fun h => ?_⟩
      · have := ih.2.1 h
        simp [this]
      · have := ih.2.2 h
        simp [this]
theorem insPart_len (x : TC) (l : List TC) : (insPart x l).1.length ≤ l.length + 1 ∧ ((insPart x l).2 = false → (insPart x l).1.length = l.length) ∧ ((insPart x l).2 = true → (insPart x l).1.length = l.length + 1) := by
  have := insPart_lenR x l.reverse
  simpa using this
theorem insFin_len (x : TC) (l : List TC) : (insFin x l).length = l.length + 1 := by
  have h := insPart_len x l
  unfold insFin
  split
  · rename_i k; exact h.2.2 k
  · rename_i k; simp [h.2.1 (by simpa using k)]
theorem sortedT_snoc (l : List TC) (x : TC) : sortedT (l ++ [x]) = insFin x (sortedT l) := by simp [sortedT]

theorem infoT : (Try.prog.info? 36).map (fun i => (i.zero, i.size, i.bytes)) = some (some (.agg #[.int .i64 0, .string .empty, .int .i64 0, .int .i64 0, .int .u64 0, .int .i64 0, .int .u64 0, .slice none 0 0, .slice none 0 0]), 9, 112) := by kernel_rfl

set_option maxHeartbeats 1000000 in
theorem sorted_calls (v : Value) (l : List TC) (F : Nat → Prop) (w : World) (h : RowK w F TC.cells 9 v l) (hn : l.length ≤ 1048576) :
    Calls Try.prog 11 #[v] w fun e w' => ∃ v', e = .returned v' ∧ Upd [] w w' ∧ w'.ownsRow w.heap.size 36 9 v' l.length ((sortedT l).flatMap TC.cells) := by
  obtain ⟨A, c, rfl, hlc, hcm, hA⟩ := h.shape
  have HR := Lib.hid h
  clear h hA
  go_enter Try.func11, Try.ntmps11
  go_wp2
  go_loopw [3, 4] (fun vo i wr => ∃ k : Nat, k ≤ l.length ∧ i = .int .i64 k ∧ wr.ownsRow w.heap.size 36 9 vo k ((sortedT (l.take k)).flatMap TC.cells) ∧ Upd [] w wr) (fun _ i _ => l.length - (intOf i).toNat)
  case atStart => exact ⟨0, Nat.zero_le _, rfl, World.ownsRow_nil _ _ _ _, Upd.refl _ _⟩
  case round =>
    obtain ⟨k, hk, rfl, hown, hU⟩ := hrel
    have HK := Lib.hid hown
    have HU := Lib.hid hU
    clear hown hU
    by_cases hlt : k < l.length
    · obtain ⟨x, hx⟩ : ∃ x, l[k]? = some x := ⟨l[k], List.getElem?_eq_getElem hlt⟩
      obtain ⟨b, o, rfl, _, hxc⟩ := HR.out.at_ hx
      have HX := Lib.hid hx
      have HXC := Lib.hid hxc
      clear hx hxc
      obtain ⟨out, hout⟩ : ∃ out, out = sortedT (l.take k) := ⟨_, rfl⟩
      have HOUT := Lib.hid hout
      have HKO : Hid (wr.ownsRow w.heap.size 36 9 u3 k (out.flatMap TC.cells)) := by rw [hout]; exact HK.out
      have hol : out.length = k := by have := (own_row TC.len (by decide) HKO.out).1; omega
      have HOL := Lib.hid hol
      obtain ⟨Ao, co, rfl, _⟩ := own_shape HKO.out
      clear HK hout hol
      go_wp2
      obtain ⟨wo, rfl⟩ : ∃ wo : World, wo = wr := ⟨_, rfl⟩
      go_loopw [5, 6, 7] (fun vn vd vm wi => ∃ m : Nat, m ≤ k ∧ vm = .int .i64 m ∧ vd = .bool (insPart x (out.take m)).2 ∧ wi.ownsRow w.heap.size 36 9 vn (insPart x (out.take m)).1.length ((insPart x (out.take m)).1.flatMap TC.cells) ∧ wi.ownsRow w.heap.size 36 9 (.slice Ao k co) k (out.flatMap TC.cells) ∧ Apart vn (.slice Ao k co) ∧ Upd [] w wi) (fun _ _ m _ => k - (intOf m).toNat)
      case atStart => exact ⟨0, Nat.zero_le _, rfl, rfl, World.ownsRow_nil _ _ _ _, HKO.out, Apart.nilL _, HU.out⟩
      case round =>
        obtain ⟨m, hm, rfl, rfl, hn1, hn2, hap, hU⟩ := hrel
        have HN1 := Lib.hid hn1
        have HN2 := Lib.hid hn2
        have HAP := Lib.hid hap
        have HUI := Lib.hid hU
        have hus := hU.size
        have HLN := Lib.hid (insPart_len x (out.take m))
        have hbd : (insPart x (out.take m)).1.length ≤ m + 1 := by have := HLN.out.1; rw [List.length_take] at this; omega
        clear hn1 hn2 hap hU
        by_cases hmk : m < k
        · obtain ⟨y, hy⟩ : ∃ y, out[m]? = some y := ⟨out[m]'(by have := HOL.out; omega), List.getElem?_eq_getElem _⟩
          have HST := Lib.hid (show insPart x (out.take (m + 1)) = insStep x (insPart x (out.take m)) y by rw [take_snoc' hy, insPart_snoc])
          obtain ⟨b2, o2, rfl, _, hyc⟩ := (own_row TC.len (by decide) HN2.out).2.at_ hy
          have HY := Lib.hid hyc
          have HYY := Lib.hid hy
          clear hy hyc
          have y0 := HY.out 0 _ rfl
          have y1 := HY.out 1 _ rfl
          have y2 := HY.out 2 _ rfl
          have y3 := HY.out 3 _ rfl
          have y4 := HY.out 4 _ rfl
          have y5 := HY.out 5 _ rfl
          have y6 := HY.out 6 _ rfl
          have y7 := HY.out 7 _ rfl
          have y8 := HY.out 8 _ rfl
          rw [Nat.add_zero] at y0
          have hf := Lib.hid (own_base HN1.out)
          have hlo := Lib.hid (own_lt HN2.out)
          rcases Bool.eq_false_or_eq_true (insPart x (out.take m)).2 with hd | hd
          · rw [hd]
            have HE := Lib.hid (show insPart x (out.take (m + 1)) = ((insPart x (out.take m)).1 ++ [y], true) by rw [HST.out]; unfold insStep; simp [hd])
            clear hd
            go_wp2
            go_quiet (fail)
            go_wp2_with (at_builtin; go_must (refine wp_append1 w.heap.size 22 36 _ 9 112 u5 _ _ (TC.cells y) _ rfl rfl (by kernel_rfl) infoT rfl (by decide) (by decide) rfl rfl (TC.len _) (TC.one _) (HN1.out.alloc _) (by first | exact HB.new _ _ _ | exact (HB.new _ _ _).drewN _ | exact (HB.new _ _ _).drew) (by first | omega | (simp; done) | (simp; omega)) (by omega) ?_))
            intro v1 w1 hown1 hU1 hat1
            have HO1 := Lib.hid hown1
            have HU1 := Lib.hid hU1
            have HA1 := Lib.hid hat1
            have hs1 := hU1.size
            clear hown1 hU1 hat1
            go_wp2
            go_roundw
            case rel =>
              refine ⟨m + 1, by omega, by go_num, by rw [HE.out], ?_, app_own HN2.out (by first | exact (Upd.refl _ _).alloc _ | exact ((Upd.refl _ _).alloc _).drewN _ | exact ((Upd.refl _ _).alloc _).drew) HU1.out HAP.out, HAP.out.grown HA1.out (fun g hg => Nat.lt_of_lt_of_le (hlo.out g hg) (by simp)), app_upd HUI.out (by first | exact (Upd.refl _ _).alloc _ | exact ((Upd.refl _ _).alloc _).drewN _ | exact ((Upd.refl _ _).alloc _).drew) HU1.out hf.out⟩
              rw [HE.out]
              simpa [List.flatMap_append] using HO1.out
            case measure => simp [intOf]; omega
          · rw [hd]
            obtain ⟨x0, x1, x2, x3, x4, x5, x6, x7, x8⟩ : _ ∧ _ ∧ _ ∧ _ ∧ _ ∧ _ ∧ _ ∧ _ ∧ _ := ⟨HUI.out.cell (HXC.out 0 _ rfl) (by simp), HUI.out.cell (HXC.out 1 _ rfl) (by simp), HUI.out.cell (HXC.out 2 _ rfl) (by simp), HUI.out.cell (HXC.out 3 _ rfl) (by simp), HUI.out.cell (HXC.out 4 _ rfl) (by simp), HUI.out.cell (HXC.out 5 _ rfl) (by simp), HUI.out.cell (HXC.out 6 _ rfl) (by simp), HUI.out.cell (HXC.out 7 _ rfl) (by simp), HUI.out.cell (HXC.out 8 _ rfl) (by simp)⟩
            rw [Nat.add_zero] at x0
            rcases Bool.eq_false_or_eq_true (ltT x y) with hxy | hxy
            · have HE := Lib.hid (show insPart x (out.take (m + 1)) = ((insPart x (out.take m)).1 ++ [x] ++ [y], true) by rw [HST.out]; unfold insStep; simp [hd, hxy])
              have hbel := Lib.hid (below_calls x y)
              rw [hxy] at hbel
              clear hd hxy
              go_wp2
              refine still_tail 11 (by kernel_rfl) (by kernel_rfl) ?_
              simp only [List.take_succ_cons, List.take_zero, List.drop_succ_cons, List.drop_zero]
              repeat still_step
              refine wpStill_nil ?_
              go_wp2_with fail
              refine (hbel.out _).mono ?_
              rintro e w2 ⟨rfl, hg⟩
              have hg2 : Upd [] wr w2 := ((Upd.refl [] wr).drew).then hg.upd
              clear x0 x1 x2 x3 x4 x5 x6 x7 x8 y0 y1 y2 y3 y4 y5 y6 y7 y8 hg
              obtain ⟨x0, x1, x2, x3, x4, x5, x6, x7, x8⟩ : _ ∧ _ ∧ _ ∧ _ ∧ _ ∧ _ ∧ _ ∧ _ ∧ _ := ⟨(HUI.out.then hg2).cell (HXC.out 0 _ rfl) (by simp), (HUI.out.then hg2).cell (HXC.out 1 _ rfl) (by simp), (HUI.out.then hg2).cell (HXC.out 2 _ rfl) (by simp), (HUI.out.then hg2).cell (HXC.out 3 _ rfl) (by simp), (HUI.out.then hg2).cell (HXC.out 4 _ rfl) (by simp), (HUI.out.then hg2).cell (HXC.out 5 _ rfl) (by simp), (HUI.out.then hg2).cell (HXC.out 6 _ rfl) (by simp), (HUI.out.then hg2).cell (HXC.out 7 _ rfl) (by simp), (HUI.out.then hg2).cell (HXC.out 8 _ rfl) (by simp)⟩
              rw [Nat.add_zero] at x0
              have hs2 := hg2.size
              have HG := Lib.hid hg2
              have HN1' := Lib.hid (own_upd HN1.out hg2 (fun _ _ => by simp))
              clear hg2
              go_wp2_with (at_builtin; go_must (refine wp_append1 w.heap.size 22 36 _ 9 112 u5 _ _ (TC.cells x) _ rfl rfl (by kernel_rfl) infoT rfl (by decide) (by decide) rfl rfl (TC.len _) (TC.one _) (HN1'.out.alloc _) (by first | exact HB.new _ _ _ | exact (HB.new _ _ _).drewN _ | exact (HB.new _ _ _).drew) (by first | omega | (simp; done) | (simp; omega)) (by omega) ?_))
              intro v1 w1 hown1 hU1 hat1
              have hUW := app_upd HUI.out (HG.out.then (by first | exact (Upd.refl _ _).alloc _ | exact ((Upd.refl _ _).alloc _).drewN _ | exact ((Upd.refl _ _).alloc _).drew)) hU1 hf.out
              have hO2 := app_own HN2.out (HG.out.then (by first | exact (Upd.refl _ _).alloc _ | exact ((Upd.refl _ _).alloc _).drewN _ | exact ((Upd.refl _ _).alloc _).drew)) hU1 HAP.out
              have hA2 := HAP.out.grown hat1 (fun g hg => Nat.lt_of_lt_of_le (hlo.out g hg) (by first | omega | (simp; done) | (simp; omega)))
              obtain ⟨b2', o2', he2, _, hyc'⟩ := (own_row TC.len (by decide) hO2).2.at_ HYY.out
              simp only [Option.some.injEq, Addr.mk.injEq, and_true] at he2
              obtain ⟨rfl, rfl⟩ := he2
              have HY' := Lib.hid hyc'
              have HO1 := Lib.hid hown1
              have HU1 := Lib.hid hUW
              have HO2 := Lib.hid hO2
              have HA2 := Lib.hid hA2
              have HF1 := Lib.hid (own_base hown1)
              have HL2 := Lib.hid (own_lt hO2)
              have hs1 := hUW.size
              clear hown1 hUW hO2 hA2 hat1 hU1 hyc' x0 x1 x2 x3 x4 x5 x6 x7 x8
              have y0 := HY'.out 0 _ rfl
              have y1 := HY'.out 1 _ rfl
              have y2 := HY'.out 2 _ rfl
              have y3 := HY'.out 3 _ rfl
              have y4 := HY'.out 4 _ rfl
              have y5 := HY'.out 5 _ rfl
              have y6 := HY'.out 6 _ rfl
              have y7 := HY'.out 7 _ rfl
              have y8 := HY'.out 8 _ rfl
              rw [Nat.add_zero] at y0
              go_wp2_with (at_builtin; go_must (refine wp_append1 w.heap.size 22 36 _ 9 112 v1 _ _ (TC.cells y) _ rfl rfl (by kernel_rfl) infoT rfl (by decide) (by decide) rfl rfl (TC.len _) (TC.one _) (HO1.out.alloc _) (by first | exact HB.new _ _ _ | exact (HB.new _ _ _).drewN _ | exact (HB.new _ _ _).drew) (by first | omega | (simp; done) | (simp; omega)) (by omega) ?_))
              intro v3 w3 hown3 hU3 hat3
              have HO3 := Lib.hid hown3
              have HU3 := Lib.hid hU3
              have HA3 := Lib.hid hat3
              clear hown3 hU3 hat3
              go_wp2
              go_roundw
              case rel =>
                refine ⟨m + 1, by omega, by go_num, by rw [HE.out], ?_, app_own HO2.out (by first | exact (Upd.refl _ _).alloc _ | exact ((Upd.refl _ _).alloc _).drewN _ | exact ((Upd.refl _ _).alloc _).drew) HU3.out HA2.out, HA2.out.grown HA3.out (fun g hg => Nat.lt_of_lt_of_le (HL2.out g hg) (by first | omega | (simp; done) | (simp; omega))), app_upd HU1.out (by first | exact (Upd.refl _ _).alloc _ | exact ((Upd.refl _ _).alloc _).drewN _ | exact ((Upd.refl _ _).alloc _).drew) HU3.out HF1.out⟩
                rw [HE.out]
                simpa [List.flatMap_append] using HO3.out
              case measure => simp [intOf]; omega
            · have HE := Lib.hid (show insPart x (out.take (m + 1)) = ((insPart x (out.take m)).1 ++ [y], false) by rw [HST.out]; unfold insStep; simp [hd, hxy])
              have hbel := Lib.hid (below_calls x y)
              rw [hxy] at hbel
              clear hd hxy
              go_wp2
              refine still_tail 11 (by kernel_rfl) (by kernel_rfl) ?_
              simp only [List.take_succ_cons, List.take_zero, List.drop_succ_cons, List.drop_zero]
              repeat still_step
              refine wpStill_nil ?_
              go_wp2_with fail
              refine (hbel.out _).mono ?_
              rintro e w2 ⟨rfl, hg⟩
              have hg2 : Upd [] wr w2 := ((Upd.refl [] wr).drew).then hg.upd
              clear x0 x1 x2 x3 x4 x5 x6 x7 x8 y0 y1 y2 y3 y4 y5 y6 y7 y8 hg
              obtain ⟨y0, y1, y2, y3, y4, y5, y6, y7, y8⟩ : _ ∧ _ ∧ _ ∧ _ ∧ _ ∧ _ ∧ _ ∧ _ ∧ _ := ⟨hg2.cell (HY.out 0 _ rfl) (by simp), hg2.cell (HY.out 1 _ rfl) (by simp), hg2.cell (HY.out 2 _ rfl) (by simp), hg2.cell (HY.out 3 _ rfl) (by simp), hg2.cell (HY.out 4 _ rfl) (by simp), hg2.cell (HY.out 5 _ rfl) (by simp), hg2.cell (HY.out 6 _ rfl) (by simp), hg2.cell (HY.out 7 _ rfl) (by simp), hg2.cell (HY.out 8 _ rfl) (by simp)⟩
              rw [Nat.add_zero] at y0
              have hs2 := hg2.size
              have HG := Lib.hid hg2
              have HN1' := Lib.hid (own_upd HN1.out hg2 (fun _ _ => by simp))
              clear hg2
              go_wp2_with (at_builtin; go_must (refine wp_append1 w.heap.size 22 36 _ 9 112 u5 _ _ (TC.cells y) _ rfl rfl (by kernel_rfl) infoT rfl (by decide) (by decide) rfl rfl (TC.len _) (TC.one _) (HN1'.out.alloc _) (by first | exact HB.new _ _ _ | exact (HB.new _ _ _).drewN _ | exact (HB.new _ _ _).drew) (by first | omega | (simp; done) | (simp; omega)) (by omega) ?_))
              intro v1 w1 hown1 hU1 hat1
              have HO1 := Lib.hid hown1
              have HU1 := Lib.hid hU1
              have HA1 := Lib.hid hat1
              have hs1 := hU1.size
              clear hown1 hU1 hat1
              go_wp2
              go_roundw
              case rel =>
                refine ⟨m + 1, by omega, by go_num, by rw [HE.out], ?_, app_own HN2.out (HG.out.then (by first | exact (Upd.refl _ _).alloc _ | exact ((Upd.refl _ _).alloc _).drewN _ | exact ((Upd.refl _ _).alloc _).drew)) HU1.out HAP.out, HAP.out.grown HA1.out (fun g hg => Nat.lt_of_lt_of_le (hlo.out g hg) (by first | omega | (simp; done) | (simp; omega))), app_upd HUI.out (HG.out.then (by first | exact (Upd.refl _ _).alloc _ | exact ((Upd.refl _ _).alloc _).drewN _ | exact ((Upd.refl _ _).alloc _).drew)) HU1.out hf.out⟩
                rw [HE.out]
                simpa [List.flatMap_append] using HO1.out
              case measure => simp [intOf]; omega
        · obtain rfl : m = k := by omega
          have htk : out.take m = out := by have := HOL.out; exact List.take_of_length_le (by omega)
          rw [htk] at HN1 HLN hbd ⊢
          have hf := Lib.hid (own_base HN1.out)
          have HS1 := Lib.hid (show sortedT (l.take (m + 1)) = insFin x out by rw [take_snoc' HX.out, sortedT_snoc, HOUT.out])
          clear htk
          rcases Bool.eq_false_or_eq_true (insPart x out).2 with hd | hd
          · rw [hd]
            have HE := Lib.hid (show insFin x out = (insPart x out).1 by unfold insFin; rw [if_pos hd])
            have HL1 := Lib.hid ((insPart_len x out).2.2 hd)
            clear hd
            go_wp2
            go_roundw
            case rel =>
              refine ⟨m + 1, by omega, by go_num, ?_, HUI.out⟩
              rw [HS1.out, HE.out]
              have := HN1.out
              rw [HL1.out, HOL.out] at this
              exact this
            case measure => simp [intOf]; omega
          · rw [hd]
            have HE := Lib.hid (show insFin x out = (insPart x out).1 ++ [x] by unfold insFin; rw [if_neg (by rw [hd]; decide)])
            have HL1 := Lib.hid ((insPart_len x out).2.1 hd)
            clear hd
            obtain ⟨x0, x1, x2, x3, x4, x5, x6, x7, x8⟩ : _ ∧ _ ∧ _ ∧ _ ∧ _ ∧ _ ∧ _ ∧ _ ∧ _ := ⟨HUI.out.cell (HXC.out 0 _ rfl) (by simp), HUI.out.cell (HXC.out 1 _ rfl) (by simp), HUI.out.cell (HXC.out 2 _ rfl) (by simp), HUI.out.cell (HXC.out 3 _ rfl) (by simp), HUI.out.cell (HXC.out 4 _ rfl) (by simp), HUI.out.cell (HXC.out 5 _ rfl) (by simp), HUI.out.cell (HXC.out 6 _ rfl) (by simp), HUI.out.cell (HXC.out 7 _ rfl) (by simp), HUI.out.cell (HXC.out 8 _ rfl) (by simp)⟩
            rw [Nat.add_zero] at x0
            go_wp2_with (at_builtin; go_must (refine wp_append1 w.heap.size 22 36 _ 9 112 u5 _ _ (TC.cells x) _ rfl rfl (by kernel_rfl) infoT rfl (by decide) (by decide) rfl rfl (TC.len _) (TC.one _) (HN1.out.alloc _) (by first | exact HB.new _ _ _ | exact (HB.new _ _ _).drewN _ | exact (HB.new _ _ _).drew) (by first | omega | (simp; done) | (simp; omega)) (by omega) ?_))
            intro v1 w1 hown1 hU1 hat1
            have HO1 := Lib.hid hown1
            have HU1 := Lib.hid hU1
            clear hown1 hU1 hat1
            go_wp2
            go_roundw
            case rel =>
              refine ⟨m + 1, by omega, by go_num, ?_, app_upd HUI.out (by first | exact (Upd.refl _ _).alloc _ | exact ((Upd.refl _ _).alloc _).drewN _ | exact ((Upd.refl _ _).alloc _).drew) HU1.out hf.out⟩
              rw [HS1.out, HE.out]
              have := HO1.out
              rw [HL1.out, HOL.out] at this
              simpa [List.flatMap_append] using this
            case measure => simp [intOf]; omega
    · go_wp2
      go_ret
      obtain rfl : k = l.length := by omega
      have hk' := HK.out
      rw [List.take_length] at hk'
      exact ⟨u3, rfl, HU.out, hk'⟩
end Go.Proofs.Ythbjpoiolmlpmaa
