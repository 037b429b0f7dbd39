/- archive.Create. -/
import Derived.Test.YtdjpcinibgbglaaFileL
import Derived.Test.YtdjpcinibgbglaaFn
import Derived.Test.YtdjpcinibgbglaaCreR
import Derived.WalkSpells
set_option linter.unusedVariables false
set_option linter.unusedSimpArgs false
namespace Go.Proofs.Ytdjpcinibgbglaa
open Go.RowKit Go.Sort
def newB (s : Spc) : Band := ⟨s.1, List.replicate s.2.toNat none⟩
def newF (l : List Spc) (m x : Int) : Fl := ⟨m, x, l.map newB⟩
theorem rolled_calls (m : Int) (w : World) (h : 1 ≤ m ∧ m ≤ 5) : Calls Try.prog 40 #[.int .i64 m] w fun e w' => e = .returned (rollV m) ∧ w' = w := by
  obtain rfl | rfl | rfl | rfl | rfl : m = 1 ∨ m = 2 ∨ m = 3 ∨ m = 4 ∨ m = 5 := by omega
  all_goals
    go_enter Try.func40, Try.ntmps40
    go_wp2
    go_ret
    exact ⟨rfl, rfl⟩
theorem rolled_none (m : Int) (w : World) (h : m < 1 ∨ 5 < m) : Calls Try.prog 40 #[.int .i64 m] w fun e w' => e = .returned Value.nilFunc ∧ w' = w := by
  have e1 : (m == 1) = false := beq_false_of_ne (by omega)
  have e2 : (m == 2) = false := beq_false_of_ne (by omega)
  have e3 : (m == 3) = false := beq_false_of_ne (by omega)
  have e4 : (m == 4) = false := beq_false_of_ne (by omega)
  have e5 : (m == 5) = false := beq_false_of_ne (by omega)
  go_enter Try.func40, Try.ntmps40
  go_wp2
  go_ret
  exact ⟨rfl, rfl⟩
theorem muts_snoc (Ls : List Loc) (L : Loc) : muts (Ls ++ [L]) = muts Ls ++ [L.l, L.i] := by simp [muts, List.flatMap_append]
theorem mem_muts' {Ls : List Loc} {y : Nat} (h : y ∈ muts Ls) : ∃ (j : Nat) (L : Loc), Ls[j]? = some L ∧ (y = L.l ∨ y = L.i) := by
  unfold muts at h
  simp only [List.mem_flatMap] at h
  obtain ⟨L, hL, hx⟩ := h
  obtain ⟨k, hk, e⟩ := List.mem_iff_getElem.1 hL
  exact ⟨k, L, by rw [List.getElem?_eq_getElem hk, e], by simpa using hx⟩
theorem RowK.own {α : Type} {w : World} {F : Nat → Prop} {enc : α → List Value} {k : Nat} {v : Value} {xs : List α} (h : RowK w F enc k v xs) : RowK w (fun b => v.ownBlock = some b) enc k v xs := by
  obtain ⟨A, c, rfl, h2, h3, h4, h5⟩ := h
  refine ⟨A, c, rfl, h2, h3, h4, fun i x hx => ?_⟩
  obtain ⟨b, o, rfl, _, hc⟩ := h5 i x hx
  exact ⟨b, o, rfl, rfl, hc⟩
theorem chk_at' : ∀ (l : List Spc) (i : Nat) (p : Option Spc), (chk i p l).2 = 0 → ∀ (k : Nat) (s : Spc), l[k]? = some s → i ≤ 8 → i + k < 8 ∧ okSpc s = true
  | [], i, p, h, k, s, hs, hi => by simp at hs
  | y :: l, i, p, h, k, s, hs, hi => by
    unfold chk at h
    split at h
    · simp at h
    · rename_i hc
      simp only [not_or] at hc
      have hf : fitsS y p = true := by simpa using hc.2
      cases k with
      | zero =>
        simp at hs
        subst hs
        refine ⟨by omega, ?_⟩
        cases p with
        | none => exact hf
        | some a => simp [fitsS] at hf; exact hf.1
      | succ k =>
        have := chk_at' l (i + 1) (some y) h k s (by simpa using hs) (by omega)
        exact ⟨by omega, this.2⟩
theorem chk_at {l : List Spc} (h : (check l).2 = 0) {k : Nat} {s : Spc} (hs : l[k]? = some s) : k < 8 ∧ okSpc s = true := by
  unfold check at h
  split at h
  · simp at h
  · have := chk_at' l 0 none h k s hs (by omega)
    exact ⟨by omega, this.2⟩
theorem fn_nil (g : Nat) (W : World) : (binOp .eql 75 (.func (.func g) #[] #[]) .nilFunc).run Try.prog W = .ok (.bool false) W := by kernel_rfl
set_option maxHeartbeats 1000000 in
set_option maxRecDepth 10000 in
theorem create_ok (F : Nat → Prop) (v : Value) (l : List Spc) (m x : Int) (w : World) (hr : RowK w F spcC 2 v l) (hs : ∀ s ∈ l, I64S s) (hc : (check l).2 = 0) (hm : 1 ≤ m ∧ m ≤ 5) (hx : 0 ≤ x ∧ x ≤ 1000000) :
    Calls Try.prog 19 #[v, .int .i64 m, .int .i64 x] w fun e w' => ∃ (fb : Nat) (bv : Value) (Ls : List Loc), e = .returned (.tuple #[.pointer (some ⟨fb, 0, none⟩), .int .i64 0]) ∧ w.heap.size ≤ fb ∧ FileAt w' w.heap.size fb (newF l m x) bv Ls ∧ Upd [] w w' := by
  obtain ⟨A, c, rfl, hc1, hc2, hc3⟩ := hr.shape
  have HC := Lib.hid (check_calls F _ l w hr hs)
  rw [hc] at HC
  obtain ⟨at0, hat⟩ : ∃ a, a = (check l).1 := ⟨_, rfl⟩
  rw [← hat] at HC
  have HR := Lib.hid hr
  have HCK := Lib.hid hc
  clear hr hc hat
  have hx1 : decide (x < 0) = false := decide_eq_false (by omega)
  have hx2 : decide (1000000 < x) = false := decide_eq_false (by omega)
  have HRO := Lib.hid (fun W => rolled_calls m W hm)
  obtain ⟨g, hg⟩ : ∃ g, g = rollF m := ⟨_, rfl⟩
  unfold rollV at HRO
  rw [← hg] at HRO
  have HG := Lib.hid hg
  have HM := Lib.hid hm
  have HX := Lib.hid hx
  clear hg hm hx
  go_enter Try.func19, Try.ntmps19
  go_wp2_with fail
  refine HC.out.mono ?_
  rintro e w1 ⟨rfl, hU1⟩
  go_wp2_with fail
  refine (HRO.out _).mono ?_
  rintro e w2 ⟨rfl, rfl⟩
  have hB := HB.new w2 77 [.int .i64 m, .int .i64 x, .slice none 0 0, .func (.func g) #[] #[]]
  have y0 := hB.cell (j := 3) rfl
  have hfn := fn_nil g
  have HB2 := Lib.hid hB
  have HU2 := Lib.hid (hU1.alloc (.cells #[.int .i64 m, .int .i64 x, .slice none 0 0, .func (.func g) #[] #[]] 77))
  have HLE := Lib.hid hU1.size
  have hln : l.length ≤ 9223372036854775807 := Nat.le_trans hc1 (Nat.le_trans hc2 (by unfold maxLen; decide))
  clear hB hc1 hc2 hc3 hU1
  go_wp2_with fail
  go_loopw [40] (fun i wr => ∃ (k : Nat) (bv : Value) (Ls : List Loc), k ≤ l.length ∧ i = .int .i64 (k : Int) ∧ Upd [] w wr ∧ w2.heap.size < wr.heap.size ∧ HB wr w2.heap.size 77 [.int .i64 m, .int .i64 x, bv, .func (.func g) #[] #[]] ∧
    wr.ownsRow w.heap.size 94 1 bv k (Ls.flatMap fun L => [pB L.b]) ∧ Ls.length = k ∧ (∀ (j : Nat) (L : Loc) (s : Spc), Ls[j]? = some L → l[j]? = some s → BandAt wr L (newB s)) ∧ (muts Ls).Nodup ∧ (∀ y ∈ muts Ls, w.heap.size ≤ y)) (fun i _ => l.length - (intOf i).toNat)
  case atStart => exact ⟨0, .slice none 0 0, [], Nat.zero_le _, rfl, HU2.out, by simp, HB2.out, ⟨rfl, .inl ⟨rfl, rfl⟩⟩, rfl, by simp, by simp [muts], by simp [muts]⟩
  case round =>
    obtain ⟨k, bv, Ls, hk, rfl, hU, hlt2, hfb, hrow, hLl, hbs, hnd, hup⟩ := hrel
    by_cases hlt : k < l.length
    · obtain ⟨⟨s, n⟩, hx⟩ : ∃ s, l[k]? = some s := ⟨l[k], List.getElem?_eq_getElem hlt⟩
      obtain ⟨b, o, rfl, _, hcell⟩ := HR.out.at_ hx
      have c0 : wr.cell? ⟨b, o + k * 2, none⟩ = some (.int .i64 s) := hU.cell (by simpa using hcell 0 _ rfl) (by simp)
      have c1 : wr.cell? ⟨b, o + k * 2 + 1, none⟩ = some (.int .i64 n) := hU.cell (hcell 1 _ rfl) (by simp)
      have HUr := Lib.hid hU
      have HFB := Lib.hid hfb
      have HROW := Lib.hid hrow
      have HLL := Lib.hid hLl
      have HBS := Lib.hid hbs
      have HND := Lib.hid hnd
      have HUP := Lib.hid hup
      have HXX := Lib.hid hx
      have HL2 := Lib.hid hlt2
      clear hU hfb hrow hLl hbs hnd hup hx hcell hlt2
      have hok8 : k < 8 ∧ okSpc (s, n) = true := chk_at HCK.out HXX.out
      obtain ⟨nN, rfl⟩ : ∃ nN : Nat, n = (nN : Int) := ⟨n.toNat, by have := okSpc_iff.1 hok8.2; simp only at this; omega⟩
      have hn : nN ≤ 4096 := by have := okSpc_iff.1 hok8.2; simp only at this; omega
      have hk8' : k < 8 := hok8.1
      have HOKS := Lib.hid hok8.2
      clear hok8
      have HS0 := Lib.hid (fun (x52 x55 x58 x59 x60 : Value) => show CreS w wr w2.heap.size k g nN m x s bv (Ls.flatMap fun L => [pB L.b]) false false false false false false x52 x55 x58 x59 x60 (wr.alloc (.cells #[.int .i64 s, .int .i64 nN] 44)).drew from
        ⟨((Upd.refl _ _).alloc _).drew, by simp [World.drew], (HB.new wr _ [.int .i64 s, .int .i64 nN]).drew, (HFB.out.alloc _).drew, fun _ => own_upd HROW.out (((Upd.refl [] wr).alloc _).drew) (by simp), (fun h => by cases h), (fun h => by cases h), (fun h => by cases h), (fun h => by cases h), (fun h => by cases h)⟩)
      go_wp2_with fail
      refine region_inv (by kernel_rfl) (by kernel_rfl) (CreI w wr w2.heap.size l.length b o c k g nN m x at0 s bv (Ls.flatMap fun L => [pB L.b])) ⟨_, _, _, _, _, _, _, _, _, _, _, _, _, _, _, _, _, _, _, _, rfl, HS0.out _ _ _ _ _, (fun h => by cases h), (fun h => by cases h), (fun h => by cases h), (fun h => by cases h), (fun h => by cases h), (fun h => by cases h), (fun h => by cases h), (fun h => by cases h), (fun h => by cases h), (fun h => by cases h), (fun h => by cases h), (fun h => by cases h), (fun h => by cases h), (fun h => by cases h), (fun h => by cases h), (fun h => by cases h), (fun h => by cases h), (fun h => by cases h), (fun h => by cases h), (fun h => by cases h), (fun h => by cases h), (fun h => by cases h), (fun h => by cases h)⟩ ?_ ?_
      · obtain ⟨fb, hfb0⟩ : ∃ fb, fb = w2.heap.size := ⟨_, rfl⟩
        rw [← hfb0]
        have hfb : fb < wr.heap.size := by rw [hfb0]; exact HL2.out
        have hww : w.heap.size ≤ wr.heap.size := HUr.out.size
        have hwr : ∀ y, bv.ownBlock = some y → y < wr.heap.size := own_lt HROW.out
        have hfo : ∀ y, bv.ownBlock = some y → y ≠ fb := by rw [hfb0]; exact own_ne HROW.out HFB.out (by decide)
        have hk8 : k ≤ 8 := by omega
        clear HC HR HCK HX HXX HBS HND HUP HFB HROW HUr HL2 HS0 hfb0 HB2 HU2 HLE HLL y0 c0 c1 hln
        generalize (Ls.flatMap fun L => [pB L.b]) = cells
        generalize l.length = ln
        rintro D A W i o' ⟨x44, x45, x46, x47, x48, x49, x50, x51, x52, x53, x54, x55, x56, x57, x58, x59, x60, x61, x62, y63, rfl, hS, s0, s1, s2, s3, s4, s5, s6, s7, s9, s10, s12, s13, s17, s18, i12_8, i12_11, i13_12, i14_13, i15_14, i16_15, i16_4, i19_16, i19_18⟩ ho hD hdep
        have hi : i < 20 := (Array.getElem?_eq_some_iff.1 ho).1
        match i with
        | 0 =>
          refine wpOp_of_list ho ?_
          obtain rfl := Option.some.inj ho
          go_wp2
          exact ⟨_, _, _, _, _, _, _, _, _, _, _, _, _, _, _, _, _, _, _, _, rfl, (by simpa using hS), (fun _ => rfl), (by simpa using s1), (by simpa using s2), (by simpa using s3), (by simpa using s4), (by simpa using s5), (by simpa using s6), (by simpa using s7), (by simpa using s9), (by simpa using s10), (by simpa using s12), (by simpa using s13), (by simpa using s17), (by simpa using s18), (by simpa using i12_8), (by simpa using i12_11), (by simpa using i13_12), (by simpa using i14_13), (by simpa using i15_14), (by simpa using i16_15), (by simpa using i16_4), (by simpa using i19_16), (by simpa using i19_18)⟩
        | 1 =>
          refine wpOp_of_list ho ?_
          obtain rfl := Option.some.inj ho
          go_wp2
          exact ⟨_, _, _, _, _, _, _, _, _, _, _, _, _, _, _, _, _, _, _, _, rfl, (by simpa using hS), (by simpa using s0), (fun _ => rfl), (by simpa using s2), (by simpa using s3), (by simpa using s4), (by simpa using s5), (by simpa using s6), (by simpa using s7), (by simpa using s9), (by simpa using s10), (by simpa using s12), (by simpa using s13), (by simpa using s17), (by simpa using s18), (by simpa using i12_8), (by simpa using i12_11), (by simpa using i13_12), (by simpa using i14_13), (by simpa using i15_14), (by simpa using i16_15), (by simpa using i16_4), (by simpa using i19_16), (by simpa using i19_18)⟩
        | 2 =>
          refine wpOp_of_list ho ?_
          obtain rfl := Option.some.inj ho
          obtain rfl := s1 (hdep ⟨1, .data⟩ (by simp) rfl)
          go_wp2
          exact ⟨_, _, _, _, _, _, _, _, _, _, _, _, _, _, _, _, _, _, _, _, rfl, (by simpa using hS), (by simpa using s0), (by simp), (fun _ => rfl), (by simpa using s3), (by simpa using s4), (by simpa using s5), (by simpa using s6), (by simpa using s7), (by simpa using s9), (by simpa using s10), (by simpa using s12), (by simpa using s13), (by simpa using s17), (by simpa using s18), (by simpa using i12_8), (by simpa using i12_11), (by simpa using i13_12), (by simpa using i14_13), (by simpa using i15_14), (by simpa using i16_15), (by simpa using i16_4), (by simpa using i19_16), (by simpa using i19_18)⟩
        | 3 =>
          refine wpOp_of_list ho ?_
          obtain rfl := Option.some.inj ho
          obtain rfl := s2 (hdep ⟨2, .data⟩ (by simp) rfl)
          go_wp2
          exact ⟨_, _, _, _, _, _, _, _, _, _, _, _, _, _, _, _, _, _, _, _, rfl, (by simpa using hS), (by simpa using s0), (by simpa using s1), (by simp), (fun _ => rfl), (by simpa using s4), (by simpa using s5), (by simpa using s6), (by simpa using s7), (by simpa using s9), (by simpa using s10), (by simpa using s12), (by simpa using s13), (by simpa using s17), (by simpa using s18), (by simpa using i12_8), (by simpa using i12_11), (by simpa using i13_12), (by simpa using i14_13), (by simpa using i15_14), (by simpa using i16_15), (by simpa using i16_4), (by simpa using i19_16), (by simpa using i19_18)⟩
        | 4 =>
          refine wpOp_of_list ho ?_
          obtain rfl := Option.some.inj ho
          obtain rfl := s3 (hdep ⟨3, .data⟩ (by simp) rfl)
          have n16 : D 16 = false := by
            rcases Bool.eq_false_or_eq_true (D 16) with h | h
            · have h2 := i16_4 h; rw [hD] at h2; cases h2
            · exact h
          have n19 : D 19 = false := by
            rcases Bool.eq_false_or_eq_true (D 19) with h | h
            · have h2 := i19_16 h; rw [n16] at h2; cases h2
            · exact h
          have hf := hS.f
          rw [n19] at hf
          have y0 := hf.cell (j := 2) rfl
          simp only [Bool.false_eq_true, if_false] at y0
          go_wp2
          exact ⟨_, _, _, _, _, _, _, _, _, _, _, _, _, _, _, _, _, _, _, _, rfl, (by simpa using hS), (by simpa using s0), (by simpa using s1), (by simpa using s2), (by simp), (fun _ => rfl), (by simpa using s5), (by simpa using s6), (by simpa using s7), (by simpa using s9), (by simpa using s10), (by simpa using s12), (by simpa using s13), (by simpa using s17), (by simpa using s18), (by simpa using i12_8), (by simpa using i12_11), (by simpa using i13_12), (by simpa using i14_13), (by simpa using i15_14), (by simpa using i16_15), (fun _ => by simp), (by simpa using i19_16), (by simpa using i19_18)⟩
        | 5 =>
          refine wpOp_of_list ho ?_
          obtain rfl := Option.some.inj ho
          have y0 := hS.c.cell (j := 0) rfl
          have y1 := hS.c.cell (j := 1) rfl
          go_wp2
          exact ⟨_, _, _, _, _, _, _, _, _, _, _, _, _, _, _, _, _, _, _, _, rfl, (by simpa using hS), (by simpa using s0), (by simpa using s1), (by simpa using s2), (by simpa using s3), (by simpa using s4), (fun _ => rfl), (by simpa using s6), (by simpa using s7), (by simpa using s9), (by simpa using s10), (by simpa using s12), (by simpa using s13), (by simpa using s17), (by simpa using s18), (by simpa using i12_8), (by simpa using i12_11), (by simpa using i13_12), (by simpa using i14_13), (by simpa using i15_14), (by simpa using i16_15), (by simpa using i16_4), (by simpa using i19_16), (by simpa using i19_18)⟩
        | 6 =>
          refine wpOp_of_list ho ?_
          obtain rfl := Option.some.inj ho
          go_wp2
          exact ⟨_, _, _, _, _, _, _, _, _, _, _, _, _, _, _, _, _, _, _, _, rfl, (by simpa using hS), (by simpa using s0), (by simpa using s1), (by simpa using s2), (by simpa using s3), (by simpa using s4), (by simpa using s5), (fun _ => rfl), (by simpa using s7), (by simpa using s9), (by simpa using s10), (by simpa using s12), (by simpa using s13), (by simpa using s17), (by simpa using s18), (by simpa using i12_8), (by simpa using i12_11), (by simpa using i13_12), (by simpa using i14_13), (by simpa using i15_14), (by simpa using i16_15), (by simpa using i16_4), (by simpa using i19_16), (by simpa using i19_18)⟩
        | 7 =>
          refine wpOp_of_list ho ?_
          obtain rfl := Option.some.inj ho
          obtain rfl := s6 (hdep ⟨6, .data⟩ (by simp) rfl)
          have y1 := hS.c.cell (j := 1) rfl
          go_wp2
          exact ⟨_, _, _, _, _, _, _, _, _, _, _, _, _, _, _, _, _, _, _, _, rfl, (by simpa using hS), (by simpa using s0), (by simpa using s1), (by simpa using s2), (by simpa using s3), (by simpa using s4), (by simpa using s5), (by simp), (fun _ => rfl), (by simpa using s9), (by simpa using s10), (by simpa using s12), (by simpa using s13), (by simpa using s17), (by simpa using s18), (by simpa using i12_8), (by simpa using i12_11), (by simpa using i13_12), (by simpa using i14_13), (by simpa using i15_14), (by simpa using i16_15), (by simpa using i16_4), (by simpa using i19_16), (by simpa using i19_18)⟩
        | 8 =>
          refine wpOp_of_list ho ?_
          obtain rfl := Option.some.inj ho
          obtain rfl := s7 (hdep ⟨7, .data⟩ (by simp) rfl)
          have n12 : D 12 = false := by
            rcases Bool.eq_false_or_eq_true (D 12) with h | h
            · have h2 := i12_8 h; rw [hD] at h2; cases h2
            · exact h
          have n13 : D 13 = false := by
            rcases Bool.eq_false_or_eq_true (D 13) with h | h
            · have h2 := i13_12 h; rw [n12] at h2; cases h2
            · exact h
          have n14 : D 14 = false := by
            rcases Bool.eq_false_or_eq_true (D 14) with h | h
            · have h2 := i14_13 h; rw [n13] at h2; cases h2
            · exact h
          have n15 : D 15 = false := by
            rcases Bool.eq_false_or_eq_true (D 15) with h | h
            · have h2 := i15_14 h; rw [n14] at h2; cases h2
            · exact h
          have n16 : D 16 = false := by
            rcases Bool.eq_false_or_eq_true (D 16) with h | h
            · have h2 := i16_15 h; rw [n15] at h2; cases h2
            · exact h
          have n19 : D 19 = false := by
            rcases Bool.eq_false_or_eq_true (D 19) with h | h
            · have h2 := i19_16 h; rw [n16] at h2; cases h2
            · exact h
          have hmk := mk_pts nN hn
          go_wp2
          have hU : Upd [] W (W.alloc (.cells ((List.replicate nN none).flatMap ptC).toArray 49)) := (Upd.refl _ _).alloc _
          have hN := HB.new W 49 ((List.replicate nN none).flatMap ptC)
          have h2 := hS.upd hU
          rw [n14, n15, n16, n19] at h2
          exact ⟨_, _, _, _, _, _, _, _, _, _, _, _, _, _, _, _, _, _, _, _, rfl, ⟨h2.u, h2.big, h2.c, (by simpa [n19] using h2.f), (by simpa [n16] using h2.o), (fun _ => ⟨W.heap.size, rfl, hS.big, hN⟩), (by simpa using h2.i), (by simp [n14]), (by simp [n15]), (by simp [n16])⟩, (by simpa using s0), (by simpa using s1), (by simpa using s2), (by simpa using s3), (by simpa using s4), (by simpa using s5), (by simpa using s6), (by simp), (by simpa using s9), (by simpa using s10), (by simp [n12]), (by simp [n13]), (by simpa using s17), (by simpa using s18), (fun _ => by simp), (by simpa using i12_11), (by simpa using i13_12), (by simpa using i14_13), (by simpa using i15_14), (by simpa using i16_15), (by simpa using i16_4), (by simpa using i19_16), (by simpa using i19_18)⟩
        | 9 =>
          refine wpOp_of_list ho ?_
          obtain rfl := Option.some.inj ho
          go_wp2
          exact ⟨_, _, _, _, _, _, _, _, _, _, _, _, _, _, _, _, _, _, _, _, rfl, (by simpa using hS), (by simpa using s0), (by simpa using s1), (by simpa using s2), (by simpa using s3), (by simpa using s4), (by simpa using s5), (by simpa using s6), (by simpa using s7), (fun _ => rfl), (by simpa using s10), (by simpa using s12), (by simpa using s13), (by simpa using s17), (by simpa using s18), (by simpa using i12_8), (by simpa using i12_11), (by simpa using i13_12), (by simpa using i14_13), (by simpa using i15_14), (by simpa using i16_15), (by simpa using i16_4), (by simpa using i19_16), (by simpa using i19_18)⟩
        | 10 =>
          refine wpOp_of_list ho ?_
          obtain rfl := Option.some.inj ho
          obtain rfl := s9 (hdep ⟨9, .data⟩ (by simp) rfl)
          have y1 := hS.c.cell (j := 1) rfl
          go_wp2
          exact ⟨_, _, _, _, _, _, _, _, _, _, _, _, _, _, _, _, _, _, _, _, rfl, (by simpa using hS), (by simpa using s0), (by simpa using s1), (by simpa using s2), (by simpa using s3), (by simpa using s4), (by simpa using s5), (by simpa using s6), (by simpa using s7), (by simp), (fun _ => rfl), (by simpa using s12), (by simpa using s13), (by simpa using s17), (by simpa using s18), (by simpa using i12_8), (by simpa using i12_11), (by simpa using i13_12), (by simpa using i14_13), (by simpa using i15_14), (by simpa using i16_15), (by simpa using i16_4), (by simpa using i19_16), (by simpa using i19_18)⟩
        | 11 =>
          refine wpOp_of_list ho ?_
          obtain rfl := Option.some.inj ho
          obtain rfl := s10 (hdep ⟨10, .data⟩ (by simp) rfl)
          have n12 : D 12 = false := by
            rcases Bool.eq_false_or_eq_true (D 12) with h | h
            · have h2 := i12_11 h; rw [hD] at h2; cases h2
            · exact h
          have n13 : D 13 = false := by
            rcases Bool.eq_false_or_eq_true (D 13) with h | h
            · have h2 := i13_12 h; rw [n12] at h2; cases h2
            · exact h
          have n14 : D 14 = false := by
            rcases Bool.eq_false_or_eq_true (D 14) with h | h
            · have h2 := i14_13 h; rw [n13] at h2; cases h2
            · exact h
          have n15 : D 15 = false := by
            rcases Bool.eq_false_or_eq_true (D 15) with h | h
            · have h2 := i15_14 h; rw [n14] at h2; cases h2
            · exact h
          have n16 : D 16 = false := by
            rcases Bool.eq_false_or_eq_true (D 16) with h | h
            · have h2 := i16_15 h; rw [n15] at h2; cases h2
            · exact h
          have n19 : D 19 = false := by
            rcases Bool.eq_false_or_eq_true (D 19) with h | h
            · have h2 := i19_16 h; rw [n16] at h2; cases h2
            · exact h
          have hmk := mk_fls nN hn
          go_wp2
          have hU : Upd [] W (W.alloc (.cells ((List.replicate nN none).flatMap flC).toArray 4)) := (Upd.refl _ _).alloc _
          have hN := HB.new W 4 ((List.replicate nN none).flatMap flC)
          have h2 := hS.upd hU
          rw [n14, n15, n16, n19] at h2
          exact ⟨_, _, _, _, _, _, _, _, _, _, _, _, _, _, _, _, _, _, _, _, rfl, ⟨h2.u, h2.big, h2.c, (by simpa [n19] using h2.f), (by simpa [n16] using h2.o), (by simpa using h2.l), (fun _ => ⟨W.heap.size, rfl, hS.big, hN⟩), (by simp [n14]), (by simp [n15]), (by simp [n16])⟩, (by simpa using s0), (by simpa using s1), (by simpa using s2), (by simpa using s3), (by simpa using s4), (by simpa using s5), (by simpa using s6), (by simpa using s7), (by simpa using s9), (by simp), (by simp [n12]), (by simp [n13]), (by simpa using s17), (by simpa using s18), (by simpa using i12_8), (fun _ => by simp), (by simpa using i13_12), (by simpa using i14_13), (by simpa using i15_14), (by simpa using i16_15), (by simpa using i16_4), (by simpa using i19_16), (by simpa using i19_18)⟩
        | 12 =>
          refine wpOp_of_list ho ?_
          obtain rfl := Option.some.inj ho
          have e8 := hdep ⟨8, .data⟩ (by simp) rfl
          have e11 := hdep ⟨11, .data⟩ (by simp) rfl
          obtain ⟨lB, rfl, hl2, hl3⟩ := hS.l e8
          obtain ⟨iB, rfl, hi2, hi3⟩ := hS.i e11
          go_wp2
          exact ⟨_, _, _, _, _, _, _, _, _, _, _, _, _, _, _, _, _, _, _, _, rfl, (by simpa using hS), (by simpa using s0), (by simpa using s1), (by simpa using s2), (by simpa using s3), (by simpa using s4), (by simpa using s5), (by simpa using s6), (by simpa using s7), (by simpa using s9), (by simpa using s10), (fun _ => rfl), (by simpa using s13), (by simpa using s17), (by simpa using s18), (fun _ => by simp [e8]), (fun _ => by simp [e11]), (fun _ => by simp), (by simpa using i14_13), (by simpa using i15_14), (by simpa using i16_15), (by simpa using i16_4), (by simpa using i19_16), (by simpa using i19_18)⟩
        | 13 =>
          refine wpOp_of_list ho ?_
          obtain rfl := Option.some.inj ho
          obtain rfl := s5 (hdep ⟨5, .data⟩ (by simp) rfl)
          have e12 := hdep ⟨12, .data⟩ (by simp) rfl
          obtain ⟨lB, rfl, hl2, hl3⟩ := hS.l (i12_8 e12)
          obtain ⟨iB, rfl, hi2, hi3⟩ := hS.i (i12_11 e12)
          obtain rfl := s12 e12
          go_wp2
          exact ⟨_, _, _, _, _, _, _, _, _, _, _, _, _, _, _, _, _, _, _, _, rfl, (by simpa using hS), (by simpa using s0), (by simpa using s1), (by simpa using s2), (by simpa using s3), (by simpa using s4), (by simp), (by simpa using s6), (by simpa using s7), (by simpa using s9), (by simpa using s10), (by simp), (fun _ => rfl), (by simpa using s17), (by simpa using s18), (by simpa using i12_8), (by simpa using i12_11), (fun _ => by simp [e12]), (fun _ => by simp), (by simpa using i15_14), (by simpa using i16_15), (by simpa using i16_4), (by simpa using i19_16), (by simpa using i19_18)⟩
        | 14 =>
          refine wpOp_of_list ho ?_
          obtain rfl := Option.some.inj ho
          have e13 := hdep ⟨13, .data⟩ (by simp) rfl
          have e12 := i13_12 e13
          obtain ⟨lB, rfl, hl2, hl3⟩ := hS.l (i12_8 e12)
          obtain ⟨iB, rfl, hi2, hi3⟩ := hS.i (i12_11 e12)
          obtain rfl := s13 e13
          have n15 : D 15 = false := by
            rcases Bool.eq_false_or_eq_true (D 15) with h | h
            · have h2 := i15_14 h; rw [hD] at h2; cases h2
            · exact h
          have n16 : D 16 = false := by
            rcases Bool.eq_false_or_eq_true (D 16) with h | h
            · have h2 := i16_15 h; rw [n15] at h2; cases h2
            · exact h
          have n19 : D 19 = false := by
            rcases Bool.eq_false_or_eq_true (D 19) with h | h
            · have h2 := i19_16 h; rw [n16] at h2; cases h2
            · exact h
          go_wp2
          have h2 := hS.upd ((Upd.refl [] W).alloc (.cells #[.int .i64 s, .int .i64 nN, .slice (some ⟨lB, 0, none⟩) nN nN, .slice (some ⟨iB, 0, none⟩) nN nN] 107))
          have hN := HB.new W 107 [.int .i64 s, .int .i64 nN, .slice (some ⟨lB, 0, none⟩) nN nN, .slice (some ⟨iB, 0, none⟩) nN nN]
          exact ⟨_, _, _, _, _, _, _, _, _, _, _, _, _, _, _, _, _, _, _, _, rfl, ⟨h2.u, h2.big, h2.c, (by simpa using h2.f), (by simpa using h2.o), (by simpa using h2.l), (by simpa using h2.i), (fun _ => ⟨W.heap.size, rfl, hS.big, hN⟩), (by simp [n15]), (by simp [n16])⟩, (by simpa using s0), (by simpa using s1), (by simpa using s2), (by simpa using s3), (by simpa using s4), (by simpa using s5), (by simpa using s6), (by simpa using s7), (by simpa using s9), (by simpa using s10), (by simp), (by simp), (by simpa using s17), (by simpa using s18), (by simpa using i12_8), (by simpa using i12_11), (by simpa using i13_12), (fun _ => by simp [e13]), (fun _ => by simp), (by simpa using i16_15), (by simpa using i16_4), (by simpa using i19_16), (by simpa using i19_18)⟩
        | 15 =>
          refine wpOp_of_list ho ?_
          obtain rfl := Option.some.inj ho
          have e14 := hdep ⟨14, .data⟩ (by simp) rfl
          obtain ⟨bB, rfl, hb2, hb3⟩ := hS.b e14
          have n16 : D 16 = false := by
            rcases Bool.eq_false_or_eq_true (D 16) with h | h
            · have h2 := i16_15 h; rw [hD] at h2; cases h2
            · exact h
          have n19 : D 19 = false := by
            rcases Bool.eq_false_or_eq_true (D 19) with h | h
            · have h2 := i19_16 h; rw [n16] at h2; cases h2
            · exact h
          go_wp2
          have h2 := hS.upd ((Upd.refl [] W).alloc (.cells #[pB bB] 94))
          have hN := HB.new W 94 [pB bB]
          exact ⟨_, _, _, _, _, _, _, _, _, _, _, _, _, _, _, _, _, _, _, _, rfl, ⟨h2.u, h2.big, h2.c, (by simpa using h2.f), (by simpa using h2.o), (by simpa using h2.l), (by simpa using h2.i), (by simpa using h2.b), (fun _ => ⟨W.heap.size, rfl, hS.big, hN⟩), (by simp [n16])⟩, (by simpa using s0), (by simpa using s1), (by simpa using s2), (by simpa using s3), (by simpa using s4), (by simpa using s5), (by simpa using s6), (by simpa using s7), (by simpa using s9), (by simpa using s10), (by simpa using s12), (by simp), (by simpa using s17), (by simpa using s18), (by simpa using i12_8), (by simpa using i12_11), (by simpa using i13_12), (by simpa using i14_13), (fun _ => by simp [e14]), (fun _ => by simp), (by simpa using i16_4), (by simpa using i19_16), (by simpa using i19_18)⟩
        | 16 =>
          refine wpOp_of_list ho ?_
          obtain rfl := Option.some.inj ho
          have e4 := hdep ⟨4, .data⟩ (by simp) rfl
          have e15 := hdep ⟨15, .data⟩ (by simp) rfl
          obtain rfl := s4 e4
          obtain ⟨gB, rfl, hg2, hg3⟩ := hS.g e15
          obtain ⟨bB, rfl, hb2, hb3⟩ := hS.b (i15_14 e15)
          have n19 : D 19 = false := by
            rcases Bool.eq_false_or_eq_true (D 19) with h | h
            · have h2 := i19_16 h; rw [hD] at h2; cases h2
            · exact h
          have hO := hS.o hD
          obtain ⟨B, q, rfl, -, -, -⟩ := own_shape hO
          refine wp_append1 w.heap.size 74 94 _ 1 8 (.slice B k q) _ _ [pB bB] gB rfl rfl (by kernel_rfl) infoB rfl (by decide) (by decide) rfl rfl rfl one_pB hO hg3 (by have := hS.big; omega) (by omega) ?_
          intro v1 W1 hown1 hU1 hat1
          go_wp2
          have hold : ∀ y, wr.heap.size < y → y ∉ (Value.slice B k q).ownBlock.toList := fun y hy hm => by have := hwr y (by simpa using hm); omega
          exact ⟨_, _, _, _, _, _, _, _, _, _, _, _, _, _, _, _, _, _, _, _, rfl, ⟨hS.u.trans hU1 (fun _ h => h) (fun y hy => .inl (by simp at hy ⊢; exact .inl hy)), Nat.lt_of_lt_of_le hS.big hU1.size, hS.c.upd hU1 (fun hm => by have := hwr _ (by simpa using hm); omega), (by simpa [n19] using hS.f.upd hU1 (fun hm => hfo _ (by simpa using hm) rfl)), (by simp), (by simpa using fun e => (by obtain ⟨z, h1, h2, h3⟩ := hS.l e; exact ⟨z, h1, h2, h3.upd hU1 (hold z h2)⟩)), (by simpa using fun e => (by obtain ⟨z, h1, h2, h3⟩ := hS.i e; exact ⟨z, h1, h2, h3.upd hU1 (hold z h2)⟩)), (fun _ => ⟨bB, rfl, hb2, hb3.upd hU1 (hold bB hb2)⟩), (fun _ => ⟨gB, rfl, hg2, hg3.upd hU1 (hold gB hg2)⟩), (fun _ => hown1)⟩, (by simpa using s0), (by simpa using s1), (by simpa using s2), (by simpa using s3), (by simp), (by simpa using s5), (by simpa using s6), (by simpa using s7), (by simpa using s9), (by simpa using s10), (by simpa using s12), (by simpa using s13), (by simpa using s17), (by simpa using s18), (by simpa using i12_8), (by simpa using i12_11), (by simpa using i13_12), (by simpa using i14_13), (by simpa using i15_14), (fun _ => by simp [e15]), (fun _ => by simp [e4]), (fun _ => by simp), (by simpa using i19_18)⟩
        | 17 =>
          refine wpOp_of_list ho ?_
          obtain rfl := Option.some.inj ho
          obtain rfl := s0 (hdep ⟨0, .data⟩ (by simp) rfl)
          go_wp2
          exact ⟨_, _, _, _, _, _, _, _, _, _, _, _, _, _, _, _, _, _, _, _, rfl, (by simpa using hS), (by simp), (by simpa using s1), (by simpa using s2), (by simpa using s3), (by simpa using s4), (by simpa using s5), (by simpa using s6), (by simpa using s7), (by simpa using s9), (by simpa using s10), (by simpa using s12), (by simpa using s13), (fun _ => rfl), (by simpa using s18), (by simpa using i12_8), (by simpa using i12_11), (by simpa using i13_12), (by simpa using i14_13), (by simpa using i15_14), (by simpa using i16_15), (by simpa using i16_4), (by simpa using i19_16), (by simpa using i19_18)⟩
        | 18 =>
          refine wpOp_of_list ho ?_
          obtain rfl := Option.some.inj ho
          obtain rfl := s17 (hdep ⟨17, .data⟩ (by simp) rfl)
          go_wp2
          exact ⟨_, _, _, _, _, _, _, _, _, _, _, _, _, _, _, _, _, _, _, _, rfl, (by simpa using hS), (by simpa using s0), (by simpa using s1), (by simpa using s2), (by simpa using s3), (by simpa using s4), (by simpa using s5), (by simpa using s6), (by simpa using s7), (by simpa using s9), (by simpa using s10), (by simpa using s12), (by simpa using s13), (by simp), (fun _ => rfl), (by simpa using i12_8), (by simpa using i12_11), (by simpa using i13_12), (by simpa using i14_13), (by simpa using i15_14), (by simpa using i16_15), (by simpa using i16_4), (by simpa using i19_16), (fun _ => by simp)⟩
        | 19 =>
          refine wpOp_of_list ho ?_
          obtain rfl := Option.some.inj ho
          have e16 := hdep ⟨16, .data⟩ (by simp) rfl
          have e18 := hdep ⟨18, .data⟩ (by simp) rfl
          obtain rfl := s18 e18
          have hf := hS.f
          rw [hD] at hf
          simp only [Bool.false_eq_true, if_false] at hf
          have y0 := hf.cell (j := 2) rfl
          have f0 := hf.free 2
          have hro := hS.r e16
          obtain ⟨B2, q2, rfl, -, -, -⟩ := own_shape hro
          go_wp2
          have hne : ∀ y, wr.heap.size < y → y ≠ fb := fun y hy e => by omega
          exact ⟨_, _, _, _, _, _, _, _, _, _, _, _, _, _, _, _, _, _, _, _, rfl, ⟨hS.u.setCell (.inl (by simp)) _, (by simpa [World.setCell] using hS.big), hS.c.setNe (by dsimp only; omega) _, (by simpa using hf.set 2 (.slice B2 (k + 1) q2)), (by simp [e16]), (by simpa using fun e => (by obtain ⟨z, h1, h2, h3⟩ := hS.l e; exact ⟨z, h1, h2, h3.setNe (hne z h2) _⟩)), (by simpa using fun e => (by obtain ⟨z, h1, h2, h3⟩ := hS.i e; exact ⟨z, h1, h2, h3.setNe (hne z h2) _⟩)), (by simpa using fun e => (by obtain ⟨z, h1, h2, h3⟩ := hS.b e; exact ⟨z, h1, h2, h3.setNe (hne z h2) _⟩)), (by simpa using fun e => (by obtain ⟨z, h1, h2, h3⟩ := hS.g e; exact ⟨z, h1, h2, h3.setNe (hne z h2) _⟩)), (fun _ => own_upd hro ((Upd.refl [fb] W).setCell (.inl (by simp)) _) (fun y hy hm => own_ne hro hf (by decide) y hy (by simpa using hm)))⟩, (by simpa using s0), (by simpa using s1), (by simpa using s2), (by simpa using s3), (by simp), (by simpa using s5), (by simpa using s6), (by simpa using s7), (by simpa using s9), (by simpa using s10), (by simpa using s12), (by simpa using s13), (by simpa using s17), (by simp), (by simpa using i12_8), (by simpa using i12_11), (by simpa using i13_12), (by simpa using i14_13), (by simpa using i15_14), (by simpa using i16_15), (by simpa using i16_4), (fun _ => by simp [e16]), (fun _ => by simp [e18])⟩
        | i + 20 => omega
      · rintro D A W ⟨x44, x45, x46, x47, x48, x49, x50, x51, x52, x53, x54, x55, x56, x57, x58, x59, x60, x61, x62, y63, rfl, hS, s0, s1, s2, s3, s4, s5, s6, s7, s9, s10, s12, s13, s17, s18, i12_8, i12_11, i13_12, i14_13, i15_14, i16_15, i16_4, i19_16, i19_18⟩ hall
        have e19 := hall 19 (by decide)
        have e16 := hall 16 (by decide)
        have hr := hS.r e16
        have hf := hS.f
        rw [if_pos e19] at hf
        obtain ⟨lB, rfl, hl2, hl3⟩ := hS.l (hall 8 (by decide))
        obtain ⟨iB, rfl, hi2, hi3⟩ := hS.i (hall 11 (by decide))
        obtain ⟨bB, rfl, hb2, hb3⟩ := hS.b (hall 14 (by decide))
        have HF := Lib.hid (And.intro hS.u (And.intro hS.big (And.intro hf (And.intro hr (And.intro hl2 (And.intro hl3 (And.intro hi2 (And.intro hi3 hb3))))))))
        clear hS hf hr hl2 hl3 hi2 hi3 hb2 hb3 e19 e16 hall s0 s1 s2 s3 s4 s5 s6 s7 s9 s10 s12 s13 s17 s18 i12_8 i12_11 i13_12 i14_13 i15_14 i16_15 i16_4 i19_16 i19_18
        dsimp only
        go_wp2
        obtain ⟨hu, hbig, hf, hr, hl2, hl3, hi2, hi3, hb3⟩ := HF.out
        have hlow : ∀ y ∈ muts Ls, y < wr.heap.size := fun y hy => by
          obtain ⟨j, L, hj, e⟩ := mem_muts' hy
          have hjl : j < l.length := by have h9 := (List.getElem?_eq_some_iff.1 hj).1; have h8 := HLL.out; omega
          have hB := HBS.out j L l[j] hj (List.getElem?_eq_getElem hjl)
          rcases e with rfl | rfl
          · exact hB.hl.lt
          · exact hB.hi.lt
        have hli : lB ≠ iB := hl3.ne hi3 (by decide)
        refine ⟨?rel, ?measure⟩
        case rel =>
          refine ⟨k + 1, x60, Ls ++ [⟨bB, lB, iB⟩], by omega, rfl, HUr.out.trans hu (fun _ h => h) (fun y hy => .inr ?_), Nat.lt_trans HL2.out hbig, hf, by simpa [List.flatMap_append] using hr, by simp [HLL.out], ?_, ?_, ?_⟩
          · simp only [List.mem_append, Option.mem_toList, List.mem_singleton] at hy
            rcases hy with hy | rfl
            · exact own_base HROW.out y hy
            · exact HLE.out
          · intro j L s' hj hs'
            by_cases hjk : j < Ls.length
            · rw [List.getElem?_append_left hjk] at hj
              have hB := HBS.out j L s' hj hs'
              refine hB.upd hu ?_ ?_ ?_ <;> simp only [List.mem_append, Option.mem_toList, List.mem_singleton, not_or] <;> refine ⟨fun e => ?_, ?_⟩
              · exact own_ne HROW.out hB.hb (by decide) _ e rfl
              · exact hB.hb.ne HFB.out (by decide)
              · exact own_ne HROW.out hB.hl (by decide) _ e rfl
              · exact hB.hl.ne HFB.out (by decide)
              · exact own_ne HROW.out hB.hi (by decide) _ e rfl
              · exact hB.hi.ne HFB.out (by decide)
            · rw [List.getElem?_append_right (by omega)] at hj
              have hl1 := (List.getElem?_eq_some_iff.1 hj).1
              have hj0 : j = Ls.length := by simp at hl1; omega
              subst hj0
              simp only [Nat.sub_self, List.getElem?_cons_zero, Option.some.injEq] at hj
              subst hj
              have hkk := HLL.out
              rw [hkk, HXX.out] at hs'
              injection hs' with hs'
              subst hs'
              refine ⟨?_, ?_, ?_⟩
              · simpa [newB, bandC, Band.n] using hb3
              · simpa [newB] using hl3
              · simpa [newB] using hi3
          · rw [muts_snoc, List.nodup_append]
            refine ⟨HND.out, by simp [hli], fun y hy z hz e => ?_⟩
            have h1 := hlow y hy
            simp at hz
            rcases hz with rfl | rfl <;> omega
          · intro y hy
            rw [muts_snoc, List.mem_append] at hy
            rcases hy with hy | hy
            · exact HUP.out y hy
            · have h1 := HUr.out.size
              simp at hy
              rcases hy with rfl | rfl <;> omega
        case measure =>
          show l.length - ((k : Int) + 1).toNat < l.length - (k : Int).toNat
          omega
    · obtain rfl : k = l.length := by omega
      have HF := Lib.hid (show FileAt wr w.heap.size w2.heap.size (newF l m x) bv Ls from by
        obtain ⟨h1, h2⟩ := own_row (α := Loc) (enc := fun L => [pB L.b]) (k := 1) (fun _ => rfl) (by decide) hrow
        refine ⟨by rw [HG.out] at hfb; exact hfb, h2.own, by simp [newF, hLl], ?_, hnd, ?_, hup, own_base hrow⟩
        · intro j L b hj hb
          simp only [newF, List.getElem?_map, Option.map_eq_some_iff] at hb
          obtain ⟨s, hs1, rfl⟩ := hb
          exact hbs j L s hj hs1
        · intro y hy hm
          obtain ⟨j, L, hj, e⟩ := mem_muts' hm
          have hjl : j < l.length := by have := (List.getElem?_eq_some_iff.1 hj).1; omega
          have hB := hbs j L l[j] hj (List.getElem?_eq_getElem hjl)
          rcases e with rfl | rfl
          · exact own_ne hrow hB.hl (by decide) _ hy rfl
          · exact own_ne hrow hB.hi (by decide) _ hy rfl)
      have HUU := Lib.hid hU
      clear hU hlt2 hfb hrow hLl hbs hnd hup
      go_wp2
      go_ret2
      exact ⟨_, bv, Ls, rfl, HLE.out, HF.out, HUU.out⟩
end Go.Proofs.Ytdjpcinibgbglaa
