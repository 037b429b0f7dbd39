/- The law's head: alive. -/
import Derived.Test.YtdjpcinibgbglaaUpd
import Derived.Test.YtdjpcinibgbglaaPoints
import Derived.Test.YtdjpcinibgbglaaLift
set_option linter.unusedVariables false
set_option linter.unusedSimpArgs false
namespace Go.Proofs.Ytdjpcinibgbglaa
open Go.RowKit Go.Sort
def Band.okb (b : Band) : Bool := okSpc b.spc && (List.range b.pl.length).all fun k => match b.pl[k]? with
  | some (some p) => decide (0 ≤ p.t) && decide (p.t ≤ 1099511627775) && decide (p.t % b.step = 0) && decide (b.place p.t = k) && decide ((p.v.natAbs : Int) ≤ 1208925819614629174706176 * b.step)
  | _ => true
theorem Band.of_okb {b : Band} (h : b.okb = true) : b.ok := by
  unfold Band.okb at h
  rw [Bool.and_eq_true, List.all_eq_true] at h
  refine ⟨h.1, fun k p hp => ?_⟩
  have h2 := h.2 k (List.mem_range.2 (List.getElem?_eq_some_iff.1 hp).1)
  rw [hp] at h2
  simp only [Bool.and_eq_true, decide_eq_true_eq] at h2
  exact ⟨h2.1.1.1.1, h2.1.1.1.2, h2.1.1.2, h2.1.2, h2.2⟩
def Fl.okb (f : Fl) : Bool := decide (1 ≤ f.m) && decide (f.m ≤ 5) && decide (0 ≤ f.xff) && decide (f.xff ≤ 1000000) && decide (1 ≤ f.bands.length) && decide (f.bands.length ≤ 8) && f.bands.all Band.okb && (List.range f.bands.length).all fun k => match f.bands[k]?, f.bands[k + 1]? with
  | some a, some b => okPair a.spc b.spc
  | _, _ => true
theorem Fl.of_okb {f : Fl} (h : f.okb = true) : f.ok := by
  unfold Fl.okb at h
  simp only [Bool.and_eq_true, decide_eq_true_eq, List.all_eq_true] at h
  obtain ⟨⟨⟨⟨⟨⟨⟨h1, h2⟩, h3⟩, h4⟩, h5⟩, h6⟩, h7⟩, h8⟩ := h
  refine ⟨⟨h1, h2⟩, ⟨h3, h4⟩, fun e => by rw [e] at h5; simp at h5, h6, fun b hb => Band.of_okb (h7 b hb), fun k a b ha hb => ?_⟩
  have := h8 k (List.mem_range.2 (List.getElem?_eq_some_iff.1 ha).1)
  rw [ha, hb] at this
  exact this
def aF0 : Fl := newF [(10, 6), (60, 5)] 1 500000
def aF1 : Fl := { aF0 with bands := upB aF0.m aF0.xff 125 6 (130 - 125) aF0.bands }
def aF2 : Fl := { aF1 with bands := upB aF1.m aF1.xff 131 2 (135 - 131) aF1.bands }
def aF3 : Fl := { aF2 with bands := upB aF2.m aF2.xff 142 1 (142 - 142) aF2.bands }
theorem aOk0 : aF0.ok := Fl.of_okb (by kernel_rfl)
theorem aOk1 : aF1.ok := Fl.of_okb (by kernel_rfl)
theorem aOk2 : aF2.ok := Fl.of_okb (by kernel_rfl)
theorem aOk3 : aF3.ok := Fl.of_okb (by kernel_rfl)
theorem aP1 : (aF1.bands[1]?).map (fun b => b.pl.filterMap id) = some [] := by kernel_rfl
theorem aP3 : (aF3.bands[1]?).map (fun b => b.pl.filterMap id) = some [⟨120, 3⟩] := by kernel_rfl
theorem aQ3 : (aF3.bands[0]?).map (fun b => (b.pl.filterMap id).length) = some 3 := by kernel_rfl
theorem row2 {W : World} {b : Nat} {s0 n0 s1 n1 : Int} (h : HB W b 44 [.int .i64 s0, .int .i64 n0, .int .i64 s1, .int .i64 n1]) : RowK W (fun _ => True) spcC 2 (.slice (some ⟨b, 0, none⟩) 2 2) [(s0, n0), (s1, n1)] := by
  refine ⟨_, 2, rfl, Nat.le_refl 2, by unfold maxLen; decide, by simp, fun i x hx => ⟨b, 0, rfl, trivial, fun j u hj => ?_⟩⟩
  have hj2 : j < 2 := (List.getElem?_eq_some_iff.1 hj).1
  match i, j, hx with
  | 0, 0, hx => simp at hx; subst hx; simp at hj; subst hj; exact h.cell rfl
  | 0, 1, hx => simp at hx; subst hx; simp at hj; subst hj; exact h.cell rfl
  | 1, 0, hx => simp at hx; subst hx; simp at hj; subst hj; exact h.cell rfl
  | 1, 1, hx => simp at hx; subst hx; simp at hj; subst hj; exact h.cell rfl
  | i + 2, _, hx => simp at hx
theorem aUpd {w : World} {base fb : Nat} {f : Fl} {v : Value} {Ls : List Loc} (t val now : Int) (hf : FileAt w base fb f v Ls) (hok : f.ok) (hm : f.m = 1) (ht : sec t = true) (hn : sec now = true) (hv : fitV val 1 = true) (hle : t ≤ now) (hlast : now - t < f.last) (hbase : base ≤ w.heap.size) :
    Calls Try.prog 20 #[.pointer (some ⟨fb, 0, none⟩), .agg #[.int .i64 t, .int .i64 (wh val), .int .u64 (wl val)], .int .i64 now] w
      fun e w' => e = .returned (.int .i64 0) ∧ FileAt w' base fb { f with bands := upB f.m f.xff t val (now - t) f.bands } v Ls ∧ Upd (muts Ls) w w' :=
  update_ok base fb f v Ls t val now w hf hok (by rw [hm]; exact roll_avg) ht hn hv hle hlast hbase
def AlI (w w9 : World) (fb g3 c3 c1 : Nat) (A1 : Option Addr) (D : Nat → Bool) (A : Act) (W : World) : Prop :=
  ∃ (A4 : Option Addr) (c4 : Nat) (x0 x46 x47 x48 x49 x50 x51 x52 x53 x54 x55 x56 x57 x58 x59 x60 x61 x62 : Value), A = { tmps := #[x0, .pointer (some ⟨fb, 0, none⟩), .int .i64 0, .slice (some ⟨g3, 0, none⟩) 1 c3, .tuple #[.pointer (some ⟨fb, 0, none⟩), .int .i64 0], .agg #[.int .i64 10, .int .i64 6], .agg #[.int .i64 60, .int .i64 5], .slice (some ⟨w.heap.size, 0, none⟩) 2 2, .tuple #[.pointer (some ⟨fb, 0, none⟩), .int .i64 0], .pointer (some ⟨fb, 0, none⟩), .int .i64 0, .int .i64 0, .bool false, .bool false, .pointer (some ⟨fb, 0, none⟩), .bool false, .bool false, .bool false, .pointer (some ⟨fb, 0, none⟩), wide 6, .agg #[.int .i64 125, .int .i64 (wh 6), .int .u64 (wl 6)], .int .i64 0, .bool false, .bool false, .bool false, .pointer (some ⟨fb, 0, none⟩), .slice A1 0 c1, .int .i64 0, .bool false, .bool false, .bool false, .pointer (some ⟨fb, 0, none⟩), wide 2, .agg #[.int .i64 131, .int .i64 (wh 2), .int .u64 (wl 2)], .int .i64 0, .bool false, .bool false, .bool false, .pointer (some ⟨fb, 0, none⟩), wide 1, .agg #[.int .i64 142, .int .i64 (wh 1), .int .u64 (wl 1)], .int .i64 0, .bool false, .bool false, .pointer (some ⟨fb, 0, none⟩), .slice (some ⟨g3, 0, none⟩) 1 c3, x46, x47, x48, x49, x50, x51, x52, x53, x54, x55, x56, x57, x58, x59, x60, x61, x62], defers := [] } ∧ Upd [] w9 W ∧ (D 0 = true → x46 = .pointer (some ⟨fb, 0, none⟩)) ∧ (D 1 = true → x47 = .slice A4 3 c4) ∧ (D 2 = true → x48 = .int .i64 3) ∧ (D 3 = true → x49 = .bool true) ∧ (D 4 = true → x50 = .bool true) ∧ (D 5 = true → x51 = .slice (some ⟨g3, 0, none⟩) 1 c3) ∧ (D 6 = true → x52 = .int .i64 1) ∧ (D 7 = true → x53 = .bool true) ∧ (D 8 = true → x54 = .bool true) ∧ (D 9 = true → x55 = .bool true) ∧ (D 10 = true → x56 = .slice (some ⟨g3, 0, none⟩) 1 c3) ∧ (D 11 = true → x57 = .pointer (some ⟨g3, 0, none⟩)) ∧ (D 12 = true → x58 = .agg #[.int .i64 120, .int .i64 (wh 3), .int .u64 (wl 3)]) ∧ (D 13 = true → x59 = wide 3) ∧ (D 14 = true → x60 = .agg #[.int .i64 120, .int .i64 (wh 3), .int .u64 (wl 3)]) ∧ (D 15 = true → x61 = .bool true) ∧ (D 16 = true → x62 = .bool true) ∧ (D 17 = true → x0 = .bool true)
set_option maxRecDepth 20000 in
set_option maxHeartbeats 4000000 in
theorem alive_calls (w : World) : Calls Try.prog 14 #[] w fun e w' => e = .returned (.bool true) ∧ Upd [] w w' := by
  have hS := HB.new w 44 [.int .i64 10, .int .i64 6, .int .i64 60, .int .i64 5]
  have HU0 := Lib.hid ((Upd.refl [] w).alloc (.cells #[.int .i64 10, .int .i64 6, .int .i64 60, .int .i64 5] 44))
  have HCR := Lib.hid (create_ok (fun _ => True) _ [(10, 6), (60, 5)] 1 500000 _ (row2 hS) (by intro s hs; simp at hs; rcases hs with rfl | rfl <;> (unfold I64S I64; decide)) (by kernel_rfl) (by decide) (by decide))
  clear hS
  go_enter Try.func14, Try.ntmps14
  go_wp2_with fail
  refine HCR.out.mono ?_
  rintro e w1 ⟨fb, bv, Ls, rfl, hfb, hF, hU1⟩
  have HF1 := Lib.hid (show FileAt w1 w.heap.size fb aF0 bv Ls from ⟨hF.hf, hF.row, hF.len, hF.band, hF.nodup, hF.own, fun y hy => Nat.le_trans (by simp) (hF.up y hy), fun y hy => Nat.le_trans (by simp) (hF.low y hy)⟩)
  have HU1 := Lib.hid (HU0.out.then hU1)
  clear hfb hF hU1 HCR
  go_wp2_with fail
  refine (of_calls 6 (by unfold I64; decide) _).mono ?_
  rintro e w2 ⟨rfl, hU2⟩
  have HU2 := Lib.hid (HU1.out.then hU2)
  have HC := Lib.hid (aUpd 125 6 130 (HF1.out.upd0 hU2) aOk0 rfl (by decide) (by decide) (by decide) (by decide) (of_decide_eq_true (by kernel_rfl)) HU2.out.size)
  clear hU2
  go_wp2_with fail
  refine HC.out.mono ?_
  rintro e w3 ⟨rfl, hF3, hU3⟩
  have HF3 := Lib.hid (show FileAt w3 w.heap.size fb aF1 bv Ls from hF3)
  have HU3 := Lib.hid (HU2.out.trans hU3 (fun _ h => h) (fun y hy => .inr (hF3.up y hy)) : Upd [] w w3)
  clear hF3 hU3 HC
  obtain ⟨b1, hb1, hfm1⟩ := Option.map_eq_some_iff.1 aP1
  have HP1 := Lib.hid (pointsF_in w.heap.size fb aF1 bv Ls 1 b1 w3 HF3.out aOk1 hb1)
  rw [hfm1] at HP1
  clear hb1 hfm1
  go_wp2_with fail
  refine HP1.out.mono ?_
  rintro e w4 ⟨v1, l1, rfl, hp1, -, ho1, hU4⟩
  obtain rfl := hp1.eq_nil
  obtain ⟨A1, c1, rfl, -, -, -⟩ := own_shape ho1
  have HF4 := Lib.hid (HF3.out.upd0 hU4)
  have HU4 := Lib.hid (HU3.out.then hU4)
  clear ho1 hU4 hp1
  go_wp2_with fail
  refine (of_calls 2 (by unfold I64; decide) _).mono ?_
  rintro e w5 ⟨rfl, hU5⟩
  have HU5 := Lib.hid (HU4.out.then hU5)
  have HF5 := Lib.hid (HF4.out.upd0 hU5)
  have HC := Lib.hid (aUpd 131 2 135 (HF4.out.upd0 hU5) aOk1 rfl (by decide) (by decide) (by decide) (by decide) (of_decide_eq_true (by kernel_rfl)) HU5.out.size)
  clear hU5
  go_wp2_with fail
  refine HC.out.mono ?_
  rintro e w6 ⟨rfl, hF6, hU6⟩
  have HF6 := Lib.hid (show FileAt w6 w.heap.size fb aF2 bv Ls from hF6)
  have HU6 := Lib.hid (HU5.out.trans hU6 (fun _ h => h) (fun y hy => .inr (hF6.up y hy)) : Upd [] w w6)
  clear hF6 hU6 HC
  go_wp2_with fail
  refine (of_calls 1 (by unfold I64; decide) _).mono ?_
  rintro e w7 ⟨rfl, hU7⟩
  have HU7 := Lib.hid (HU6.out.then hU7)
  have HC := Lib.hid (aUpd 142 1 142 (HF6.out.upd0 hU7) aOk2 rfl (by decide) (by decide) (by decide) (by decide) (of_decide_eq_true (by kernel_rfl)) HU7.out.size)
  clear hU7
  go_wp2_with fail
  refine HC.out.mono ?_
  rintro e w8 ⟨rfl, hF8, hU8⟩
  have HF8 := Lib.hid (show FileAt w8 w.heap.size fb aF3 bv Ls from hF8)
  have HU8 := Lib.hid (HU7.out.trans hU8 (fun _ h => h) (fun y hy => .inr (hF8.up y hy)) : Upd [] w w8)
  clear hF8 hU8 HC
  obtain ⟨b3, hb3, hfm3⟩ := Option.map_eq_some_iff.1 aP3
  have HP3 := Lib.hid (pointsF_in w.heap.size fb aF3 bv Ls 1 b3 w8 HF8.out aOk3 hb3)
  rw [hfm3] at HP3
  clear hb3 hfm3
  go_wp2_with fail
  refine HP3.out.mono ?_
  rintro e w9 ⟨v3, l3, rfl, hp3, -, ho3, hU9⟩
  obtain rfl := List.perm_singleton.1 hp3
  obtain ⟨A3, c3, rfl, -, -, -⟩ := own_shape ho3
  have HF9 := Lib.hid (HF8.out.upd0 hU9)
  have HU9 := Lib.hid (HU8.out.then hU9)
  obtain ⟨g3, rfl, k0, hg3⟩ := own_cell ho3 0 _ rfl
  obtain ⟨g3', hg3', k1, -⟩ := own_cell ho3 1 _ rfl
  injection hg3' with hg3'
  injection hg3' with hg3' _ _
  subst hg3'
  obtain ⟨g3', hg3', k2, -⟩ := own_cell ho3 2 _ rfl
  injection hg3' with hg3'
  injection hg3' with hg3' _ _
  subst hg3'
  obtain ⟨b4, hb4, hfm4⟩ := Option.map_eq_some_iff.1 aQ3
  have HP4 := Lib.hid (fun W (hW : Upd [] w9 W) => pointsF_in w.heap.size fb aF3 bv Ls 0 b4 W (HF9.out.upd0 hW) aOk3 hb4)
  have HFM := Lib.hid hfm4
  have HK := Lib.hid (And.intro k0 (And.intro k1 k2))
  clear ho3 hU9 hp3 hb4 hfm4 k0 k1 k2
  go_wp2_with fail
  have hI3 : I64 3 := by unfold I64; decide
  refine region_inv (by kernel_rfl) (by kernel_rfl) (AlI w w9 fb g3 c3 c1 A1) ⟨none, 0, _, _, _, _, _, _, _, _, _, _, _, _, _, _, _, _, _, _, rfl, (Upd.refl _ _).drew, (fun h => by cases h), (fun h => by cases h), (fun h => by cases h), (fun h => by cases h), (fun h => by cases h), (fun h => by cases h), (fun h => by cases h), (fun h => by cases h), (fun h => by cases h), (fun h => by cases h), (fun h => by cases h), (fun h => by cases h), (fun h => by cases h), (fun h => by cases h), (fun h => by cases h), (fun h => by cases h), (fun h => by cases h), (fun h => by cases h)⟩ ?_ ?_
  · rintro D A W i o ⟨A4, c4, x0, x46, x47, x48, x49, x50, x51, x52, x53, x54, x55, x56, x57, x58, x59, x60, x61, x62, rfl, hU, s0, s1, s2, s3, s4, s5, s6, s7, s8, s9, s10, s11, s12, s13, s14, s15, s16, s17⟩ ho hD hdep
    have hi : i < 18 := (Array.getElem?_eq_some_iff.1 ho).1
    match i with
    | 0 =>
      refine wpOp_of_list ho ?_
      obtain rfl := Option.some.inj ho
      go_wp2
      exact ⟨A4, c4, _, _, _, _, _, _, _, _, _, _, _, _, _, _, _, _, _, _, rfl, hU, (fun _ => rfl), (by simpa using s1), (by simpa using s2), (by simpa using s3), (by simpa using s4), (by simpa using s5), (by simpa using s6), (by simpa using s7), (by simpa using s8), (by simpa using s9), (by simpa using s10), (by simpa using s11), (by simpa using s12), (by simpa using s13), (by simpa using s14), (by simpa using s15), (by simpa using s16), (by simpa using s17)⟩
    | 1 =>
      refine wpOp_of_list ho ?_
      obtain rfl := Option.some.inj ho
      obtain rfl := s0 (hdep ⟨0, .data⟩ (by simp) rfl)
      go_wp2_with fail
      refine (HP4.out W hU).mono ?_
      rintro e w10 ⟨v4, l4, rfl, hp4, -, ho4, hU10⟩
      obtain ⟨A5, c5, rfl, -, -, -⟩ := own_shape ho4
      have hl4 := hp4.length_eq.trans HFM.out
      rw [hl4]
      clear ho4 hp4
      go_wp2
      exact ⟨A5, c5, _, _, _, _, _, _, _, _, _, _, _, _, _, _, _, _, _, _, rfl, hU.then hU10, (by simp), (fun _ => rfl), (by simpa using s2), (by simpa using s3), (by simpa using s4), (by simpa using s5), (by simpa using s6), (by simpa using s7), (by simpa using s8), (by simpa using s9), (by simpa using s10), (by simpa using s11), (by simpa using s12), (by simpa using s13), (by simpa using s14), (by simpa using s15), (by simpa using s16), (by simpa using s17)⟩
    | 2 =>
      refine wpOp_of_list ho ?_
      obtain rfl := Option.some.inj ho
      obtain rfl := s1 (hdep ⟨1, .data⟩ (by simp) rfl)
      go_wp2
      exact ⟨A4, c4, _, _, _, _, _, _, _, _, _, _, _, _, _, _, _, _, _, _, rfl, hU, (by simpa using s0), (by simp), (fun _ => rfl), (by simpa using s3), (by simpa using s4), (by simpa using s5), (by simpa using s6), (by simpa using s7), (by simpa using s8), (by simpa using s9), (by simpa using s10), (by simpa using s11), (by simpa using s12), (by simpa using s13), (by simpa using s14), (by simpa using s15), (by simpa using s16), (by simpa using s17)⟩
    | 3 =>
      refine wpOp_of_list ho ?_
      obtain rfl := Option.some.inj ho
      obtain rfl := s2 (hdep ⟨2, .data⟩ (by simp) rfl)
      go_wp2
      exact ⟨A4, c4, _, _, _, _, _, _, _, _, _, _, _, _, _, _, _, _, _, _, rfl, hU, (by simpa using s0), (by simpa using s1), (by simp), (fun _ => rfl), (by simpa using s4), (by simpa using s5), (by simpa using s6), (by simpa using s7), (by simpa using s8), (by simpa using s9), (by simpa using s10), (by simpa using s11), (by simpa using s12), (by simpa using s13), (by simpa using s14), (by simpa using s15), (by simpa using s16), (by simpa using s17)⟩
    | 4 =>
      refine wpOp_of_list ho ?_
      obtain rfl := Option.some.inj ho
      obtain rfl := s3 (hdep ⟨3, .data⟩ (by simp) rfl)
      go_wp2
      exact ⟨A4, c4, _, _, _, _, _, _, _, _, _, _, _, _, _, _, _, _, _, _, rfl, hU, (by simpa using s0), (by simpa using s1), (by simpa using s2), (by simp), (fun _ => rfl), (by simpa using s5), (by simpa using s6), (by simpa using s7), (by simpa using s8), (by simpa using s9), (by simpa using s10), (by simpa using s11), (by simpa using s12), (by simpa using s13), (by simpa using s14), (by simpa using s15), (by simpa using s16), (by simpa using s17)⟩
    | 5 =>
      refine wpOp_of_list ho ?_
      obtain rfl := Option.some.inj ho
      obtain rfl := s4 (hdep ⟨4, .guard⟩ (by simp) rfl)
      go_wp2
      exact ⟨A4, c4, _, _, _, _, _, _, _, _, _, _, _, _, _, _, _, _, _, _, rfl, hU, (by simpa using s0), (by simpa using s1), (by simpa using s2), (by simpa using s3), (by simp), (fun _ => rfl), (by simpa using s6), (by simpa using s7), (by simpa using s8), (by simpa using s9), (by simpa using s10), (by simpa using s11), (by simpa using s12), (by simpa using s13), (by simpa using s14), (by simpa using s15), (by simpa using s16), (by simpa using s17)⟩
    | 6 =>
      refine wpOp_of_list ho ?_
      obtain rfl := Option.some.inj ho
      obtain rfl := s5 (hdep ⟨5, .data⟩ (by simp) rfl)
      obtain rfl := s4 (hdep ⟨4, .guard⟩ (by simp) rfl)
      go_wp2
      exact ⟨A4, c4, _, _, _, _, _, _, _, _, _, _, _, _, _, _, _, _, _, _, rfl, hU, (by simpa using s0), (by simpa using s1), (by simpa using s2), (by simpa using s3), (by simp), (by simp), (fun _ => rfl), (by simpa using s7), (by simpa using s8), (by simpa using s9), (by simpa using s10), (by simpa using s11), (by simpa using s12), (by simpa using s13), (by simpa using s14), (by simpa using s15), (by simpa using s16), (by simpa using s17)⟩
    | 7 =>
      refine wpOp_of_list ho ?_
      obtain rfl := Option.some.inj ho
      obtain rfl := s6 (hdep ⟨6, .data⟩ (by simp) rfl)
      obtain rfl := s4 (hdep ⟨4, .guard⟩ (by simp) rfl)
      go_wp2
      exact ⟨A4, c4, _, _, _, _, _, _, _, _, _, _, _, _, _, _, _, _, _, _, rfl, hU, (by simpa using s0), (by simpa using s1), (by simpa using s2), (by simpa using s3), (by simp), (by simpa using s5), (by simp), (fun _ => rfl), (by simpa using s8), (by simpa using s9), (by simpa using s10), (by simpa using s11), (by simpa using s12), (by simpa using s13), (by simpa using s14), (by simpa using s15), (by simpa using s16), (by simpa using s17)⟩
    | 8 =>
      refine wpOp_of_list ho ?_
      obtain rfl := Option.some.inj ho
      obtain rfl := s4 (hdep ⟨4, .data⟩ (by simp) rfl)
      obtain rfl := s7 (hdep ⟨7, .data⟩ (by simp) rfl)
      go_wp2
      exact ⟨A4, c4, _, _, _, _, _, _, _, _, _, _, _, _, _, _, _, _, _, _, rfl, hU, (by simpa using s0), (by simpa using s1), (by simpa using s2), (by simpa using s3), (by simp), (by simpa using s5), (by simpa using s6), (by simp), (fun _ => rfl), (by simpa using s9), (by simpa using s10), (by simpa using s11), (by simpa using s12), (by simpa using s13), (by simpa using s14), (by simpa using s15), (by simpa using s16), (by simpa using s17)⟩
    | 9 =>
      refine wpOp_of_list ho ?_
      obtain rfl := Option.some.inj ho
      obtain rfl := s8 (hdep ⟨8, .data⟩ (by simp) rfl)
      go_wp2
      exact ⟨A4, c4, _, _, _, _, _, _, _, _, _, _, _, _, _, _, _, _, _, _, rfl, hU, (by simpa using s0), (by simpa using s1), (by simpa using s2), (by simpa using s3), (by simpa using s4), (by simpa using s5), (by simpa using s6), (by simpa using s7), (by simp), (fun _ => rfl), (by simpa using s10), (by simpa using s11), (by simpa using s12), (by simpa using s13), (by simpa using s14), (by simpa using s15), (by simpa using s16), (by simpa using s17)⟩
    | 10 =>
      refine wpOp_of_list ho ?_
      obtain rfl := Option.some.inj ho
      obtain rfl := s9 (hdep ⟨9, .guard⟩ (by simp) rfl)
      go_wp2
      exact ⟨A4, c4, _, _, _, _, _, _, _, _, _, _, _, _, _, _, _, _, _, _, rfl, hU, (by simpa using s0), (by simpa using s1), (by simpa using s2), (by simpa using s3), (by simpa using s4), (by simpa using s5), (by simpa using s6), (by simpa using s7), (by simpa using s8), (by simp), (fun _ => rfl), (by simpa using s11), (by simpa using s12), (by simpa using s13), (by simpa using s14), (by simpa using s15), (by simpa using s16), (by simpa using s17)⟩
    | 11 =>
      refine wpOp_of_list ho ?_
      obtain rfl := Option.some.inj ho
      obtain rfl := s10 (hdep ⟨10, .data⟩ (by simp) rfl)
      obtain rfl := s9 (hdep ⟨9, .guard⟩ (by simp) rfl)
      go_wp2
      exact ⟨A4, c4, _, _, _, _, _, _, _, _, _, _, _, _, _, _, _, _, _, _, rfl, hU, (by simpa using s0), (by simpa using s1), (by simpa using s2), (by simpa using s3), (by simpa using s4), (by simpa using s5), (by simpa using s6), (by simpa using s7), (by simpa using s8), (by simp), (by simp), (fun _ => rfl), (by simpa using s12), (by simpa using s13), (by simpa using s14), (by simpa using s15), (by simpa using s16), (by simpa using s17)⟩
    | 12 =>
      refine wpOp_of_list ho ?_
      obtain rfl := Option.some.inj ho
      obtain rfl := s11 (hdep ⟨11, .data⟩ (by simp) rfl)
      obtain rfl := s9 (hdep ⟨9, .guard⟩ (by simp) rfl)
      have q0 := hU.cell HK.out.1 (by simp)
      have q1 := hU.cell HK.out.2.1 (by simp)
      have q2 := hU.cell HK.out.2.2 (by simp)
      go_wp2
      exact ⟨A4, c4, _, _, _, _, _, _, _, _, _, _, _, _, _, _, _, _, _, _, rfl, hU, (by simpa using s0), (by simpa using s1), (by simpa using s2), (by simpa using s3), (by simpa using s4), (by simpa using s5), (by simpa using s6), (by simpa using s7), (by simpa using s8), (by simp), (by simpa using s10), (by simp), (fun _ => rfl), (by simpa using s13), (by simpa using s14), (by simpa using s15), (by simpa using s16), (by simpa using s17)⟩
    | 13 =>
      refine wpOp_of_list ho ?_
      obtain rfl := Option.some.inj ho
      obtain rfl := s9 (hdep ⟨9, .guard⟩ (by simp) rfl)
      go_wp2_with fail
      refine (of_calls 3 hI3 W).mono ?_
      rintro e w10 ⟨rfl, hU10⟩
      go_wp2
      exact ⟨A4, c4, _, _, _, _, _, _, _, _, _, _, _, _, _, _, _, _, _, _, rfl, hU.then hU10, (by simpa using s0), (by simpa using s1), (by simpa using s2), (by simpa using s3), (by simpa using s4), (by simpa using s5), (by simpa using s6), (by simpa using s7), (by simpa using s8), (by simp), (by simpa using s10), (by simpa using s11), (by simpa using s12), (fun _ => rfl), (by simpa using s14), (by simpa using s15), (by simpa using s16), (by simpa using s17)⟩
    | 14 =>
      refine wpOp_of_list ho ?_
      obtain rfl := Option.some.inj ho
      obtain rfl := s13 (hdep ⟨13, .data⟩ (by simp) rfl)
      obtain rfl := s9 (hdep ⟨9, .guard⟩ (by simp) rfl)
      go_wp2
      exact ⟨A4, c4, _, _, _, _, _, _, _, _, _, _, _, _, _, _, _, _, _, _, rfl, hU, (by simpa using s0), (by simpa using s1), (by simpa using s2), (by simpa using s3), (by simpa using s4), (by simpa using s5), (by simpa using s6), (by simpa using s7), (by simpa using s8), (by simp), (by simpa using s10), (by simpa using s11), (by simpa using s12), (by simp), (fun _ => rfl), (by simpa using s15), (by simpa using s16), (by simpa using s17)⟩
    | 15 =>
      refine wpOp_of_list ho ?_
      obtain rfl := Option.some.inj ho
      obtain rfl := s12 (hdep ⟨12, .data⟩ (by simp) rfl)
      obtain rfl := s14 (hdep ⟨14, .data⟩ (by simp) rfl)
      obtain rfl := s9 (hdep ⟨9, .guard⟩ (by simp) rfl)
      go_wp2
      exact ⟨A4, c4, _, _, _, _, _, _, _, _, _, _, _, _, _, _, _, _, _, _, rfl, hU, (by simpa using s0), (by simpa using s1), (by simpa using s2), (by simpa using s3), (by simpa using s4), (by simpa using s5), (by simpa using s6), (by simpa using s7), (by simpa using s8), (by simp), (by simpa using s10), (by simpa using s11), (by simp), (by simpa using s13), (by simp), (fun _ => rfl), (by simpa using s16), (by simpa using s17)⟩
    | 16 =>
      refine wpOp_of_list ho ?_
      obtain rfl := Option.some.inj ho
      obtain rfl := s9 (hdep ⟨9, .data⟩ (by simp) rfl)
      obtain rfl := s15 (hdep ⟨15, .data⟩ (by simp) rfl)
      go_wp2
      exact ⟨A4, c4, _, _, _, _, _, _, _, _, _, _, _, _, _, _, _, _, _, _, rfl, hU, (by simpa using s0), (by simpa using s1), (by simpa using s2), (by simpa using s3), (by simpa using s4), (by simpa using s5), (by simpa using s6), (by simpa using s7), (by simpa using s8), (by simp), (by simpa using s10), (by simpa using s11), (by simpa using s12), (by simpa using s13), (by simpa using s14), (by simp), (fun _ => rfl), (by simpa using s17)⟩
    | 17 =>
      refine wpOp_of_list ho ?_
      obtain rfl := Option.some.inj ho
      obtain rfl := s16 (hdep ⟨16, .data⟩ (by simp) rfl)
      go_wp2
      exact ⟨A4, c4, _, _, _, _, _, _, _, _, _, _, _, _, _, _, _, _, _, _, rfl, hU, (by simpa using s0), (by simpa using s1), (by simpa using s2), (by simpa using s3), (by simpa using s4), (by simpa using s5), (by simpa using s6), (by simpa using s7), (by simpa using s8), (by simpa using s9), (by simpa using s10), (by simpa using s11), (by simpa using s12), (by simpa using s13), (by simpa using s14), (by simpa using s15), (by simp), (fun _ => rfl)⟩
    | i + 18 => omega
  · rintro D A W ⟨A4, c4, x0, x46, x47, x48, x49, x50, x51, x52, x53, x54, x55, x56, x57, x58, x59, x60, x61, x62, rfl, hU, s0, s1, s2, s3, s4, s5, s6, s7, s8, s9, s10, s11, s12, s13, s14, s15, s16, s17⟩ hall
    obtain rfl := s17 (hall 17 (by decide))
    have HUW := Lib.hid (HU9.out.then hU)
    clear hU s0 s1 s2 s3 s4 s5 s6 s7 s8 s9 s10 s11 s12 s13 s14 s15 s16 s17 hall
    dsimp only
    go_wp2
    go_ret
    exact ⟨rfl, HUW.out⟩
end Go.Proofs.Ytdjpcinibgbglaa
