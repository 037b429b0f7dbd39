/- The laws' made: a file behind updates. The reference's Create, when it refuses. -/
import Derived.Test.YtdjpcinibgbglaaUpdX
import Derived.Test.YtdjpcinibgbglaaMaxMin
import Derived.Test.YtdjpcinibgbglaaCreNo
import Derived.Test.YtdjpcinibgbglaaRCheck
set_option linter.unusedVariables false
set_option linter.unusedSimpArgs false
namespace Go.Proofs.Ytdjpcinibgbglaa
open Go.RowKit Go.Sort
structure Opn where
  k : Int
  t : Int
  v : Int
  a : Int
  b : Int
  now : Int
  i : Int
def opC (o : Opn) : List Value := [.int .i64 o.k, .int .i64 o.t, .int .i64 (wh o.v), .int .u64 (wl o.v), .int .i64 o.a, .int .i64 o.b, .int .i64 o.now, .int .i64 o.i]
def Opn.ok (o : Opn) : Prop := I64 o.k ∧ I64 o.t ∧ I128 o.v ∧ I64 o.a ∧ I64 o.b ∧ I64 o.now ∧ I64 o.i
def ups (f : Fl) (l : List Opn) : Fl := l.foldl (fun f o => (f.update o.t o.v o.now).1) f
theorem ups_take {f : Fl} {l : List Opn} {k : Nat} {o : Opn} (h : l[k]? = some o) : ups f (l.take (k + 1)) = ((ups f (l.take k)).update o.t o.v o.now).1 := by
  unfold ups
  rw [List.take_add_one, h, List.foldl_append]
  rfl
theorem creErr_ok {l : List Spc} {m x : Int} (h : creErr l m x = 0) : (check l).2 = 0 ∧ (1 ≤ m ∧ m ≤ 5) ∧ (0 ≤ x ∧ x ≤ 1000000) := by
  unfold creErr at h
  split at h
  · omega
  · split at h
    · omega
    · split at h
      · omega
      · omega
theorem lmade_no (F G : Nat → Prop) (v vs : Value) (l : List Spc) (m x : Int) (ops : List Opn) (w : World) (hr : RowK w F spcC 2 v l) (hs : ∀ s ∈ l, I64S s) (hc : creErr l m x ≠ 0) :
    Calls Try.prog 15 #[v, .int .i64 m, .int .i64 x, vs] w fun e w' => e = .returned (.pointer none) ∧ Upd [] w w' := by
  have HC := Lib.hid (create_no F v l m x w hr hs hc)
  clear hr hs
  go_enter Try.func15, Try.ntmps15
  go_wp2_with fail
  refine HC.out.mono ?_
  rintro e w1 ⟨rfl, hU1⟩
  have HU1 := Lib.hid hU1
  clear hU1
  go_wp2
  go_ret
  exact ⟨rfl, HU1.out⟩
set_option maxRecDepth 4000 in
set_option maxHeartbeats 1000000 in
theorem lmade_ok (F G : Nat → Prop) (v vs : Value) (l : List Spc) (m x : Int) (ops : List Opn) (w : World) (hr : RowK w F spcC 2 v l) (hs : ∀ s ∈ l, I64S s) (hc : creErr l m x = 0)
    (ho : RowK w G opC 8 vs ops) (hok : ∀ o ∈ ops, o.ok) :
    Calls Try.prog 15 #[v, .int .i64 m, .int .i64 x, vs] w fun e w' => ∃ (fb : Nat) (bv : Value) (Ls : List Loc), e = .returned (.pointer (some ⟨fb, 0, none⟩)) ∧ w.heap.size ≤ fb ∧
      FileAt w' w.heap.size fb (ups (newF l m x) ops) bv Ls ∧ (ups (newF l m x) ops).ok ∧ Upd [] w w' := by
  obtain ⟨e1, e2, e3⟩ := creErr_ok hc
  have HC := Lib.hid (create_ok F v l m x w hr hs e1 e2 e3)
  have HN := Lib.hid (newF_ok e1 e2 e3)
  obtain ⟨f0, hf0⟩ : ∃ f0, f0 = newF l m x := ⟨_, rfl⟩
  rw [← hf0] at HC HN ⊢
  clear hf0
  obtain ⟨A, c, rfl, hc1, hc2, hc3⟩ := ho.shape
  have HO := Lib.hid ho
  have HK := Lib.hid hok
  have hlm := Nat.le_trans hc1 (Nat.le_trans hc2 maxLen_le)
  clear hr hs e1 e2 e3 hc hok hc1 hc2 hc3 ho
  go_enter Try.func15, Try.ntmps15
  go_wp2_with fail
  refine HC.out.mono ?_
  rintro e w1 ⟨fb, bv, Ls, rfl, hfb, hF, hU1⟩
  have HF1 := Lib.hid hF
  have HU1 := Lib.hid hU1
  have HB := Lib.hid hfb
  clear hF hU1 HC hfb
  go_wp2
  go_loopw [11] (fun i wr => ∃ k : Nat, k ≤ ops.length ∧ i = .int .i64 (k : Int) ∧ FileAt wr w.heap.size fb (ups f0 (ops.take k)) bv Ls ∧ (ups f0 (ops.take k)).ok ∧ Upd [] w wr) (fun i _ => ops.length - (intOf i).toNat)
  case atStart => exact ⟨0, Nat.zero_le _, rfl, HF1.out, HN.out, HU1.out⟩
  case round =>
    obtain ⟨k, hk, rfl, hF, hfo, hU⟩ := hrel
    have HF := Lib.hid hF
    have HFO := Lib.hid hfo
    have HU := Lib.hid hU
    clear hF hfo hU
    by_cases hlt : k < ops.length
    · obtain ⟨y, hy⟩ : ∃ y, ops[k]? = some y := ⟨ops[k], List.getElem?_eq_getElem hlt⟩
      obtain ⟨b, o, rfl, _, hcell⟩ := HO.out.at_ hy
      have hkI : (k : Int) < (ops.length : Int) := by omega
      have hst := ups_take (f := f0) hy
      have hyo := HK.out y (List.mem_of_getElem? hy)
      have HCU := Lib.hid (fun W (hW : Upd [] wr W) => update_calls w.heap.size fb _ bv Ls y.t y.v y.now W (HF.out.upd0 hW) HFO.out (roll_ok HFO.out.m) hyo.2.2.1 (Nat.le_trans HU.out.size hW.size))
      have c1 := HU.out.cell (hcell 1 _ rfl) (by simp)
      have c2 := HU.out.cell (hcell 2 _ rfl) (by simp)
      have c3 := HU.out.cell (hcell 3 _ rfl) (by simp)
      have c6 := HU.out.cell (hcell 6 _ rfl) (by simp)
      have HST := Lib.hid hst
      have hms : ops.length - ((k : Int) + 1).toNat < ops.length - (k : Int).toNat := by omega
      clear hcell hy hst hyo
      go_wp2_with fail
      refine still_tail 11 (by kernel_rfl) (by kernel_rfl) ?_
      simp only [List.take_succ_cons, List.take_zero, List.drop_succ_cons, List.drop_zero]
      repeat still_step
      refine wpStill_nil ?_
      go_wp2_with fail
      refine (HCU.out _ ((Upd.refl _ _).drew)).mono ?_
      rintro e w2 ⟨rfl, hF2, hok2, hU2⟩
      have HF2 := Lib.hid hF2
      have HK2 := Lib.hid hok2
      have HU2 := Lib.hid (HU.out.trans (((Upd.refl [] wr).drew.of0).then hU2) (fun _ h => by cases h) (fun y hy => .inr (HF.out.up y hy)) : Upd [] w w2)
      rw [← HST.out] at HF2 HK2
      clear hF2 hok2 hU2 HCU c1 c2 c3 c6
      go_wp2
      exact ⟨⟨k + 1, hlt, rfl, HF2.out, HK2.out, HU2.out⟩, hms⟩
    · obtain rfl : k = ops.length := by omega
      rw [List.take_length] at HF HFO
      go_wp2
      go_ret
      exact ⟨fb, bv, Ls, rfl, HB.out, HF.out, HFO.out, HU.out⟩
set_option maxHeartbeats 1000000 in
theorem rcre_no (F : Nat → Prop) (v : Value) (l : List Spc) (m x : Int) (w : World) (hr : RowK w F spcC 2 v l) (hs : ∀ s ∈ l, I64S s) (hc : creErr l m x ≠ 0) :
    Calls Try.prog 16 #[v, .int .i64 m, .int .i64 x] w fun e w' => e = .returned (.tuple #[.agg #[.int .i64 0, .int .i64 0, .slice none 0 0, .slice none 0 0], .int .i64 (creErr l m x)]) ∧ Upd [] w w' := by
  have hU0 := (Upd.refl [] w).alloc (.cells #[.int .i64 0, .int .i64 0, .slice none 0 0, .slice none 0 0] 38)
  have hB0 := HB.new w 38 [.int .i64 0, .int .i64 0, .slice none 0 0, .slice none 0 0]
  have HC := Lib.hid (rcheck_calls F v l _ (hr.upd0 hU0) hs)
  obtain ⟨r, hre⟩ : ∃ r, r = creErr l m x := ⟨_, rfl⟩
  rw [← hre] at hc ⊢
  unfold creErr at hre
  generalize (check l).1 = r1 at *
  generalize (check l).2 = r2 at *
  have HU0 := Lib.hid hU0
  have HB0 := Lib.hid hB0
  clear hr hs hU0 hB0
  go_enter Try.func16, Try.ntmps16
  go_wp2_with fail
  refine HC.out.mono ?_
  rintro e w1 ⟨rfl, hU1⟩
  have hz := HB0.out.upd hU1 (by simp)
  have HU1 := Lib.hid (HU0.out.then hU1)
  have hn := HB0.out.lt
  simp at hn
  have f0 := hz.free 0
  have f1 := hz.free 1
  have f2 := hz.free 2
  have f3 := hz.free 3
  have y0 := hz.cell (j := 0) rfl
  have y1 := hz.cell (j := 1) rfl
  have y2 := hz.cell (j := 2) rfl
  have y3 := hz.cell (j := 3) rfl
  have HZ := Lib.hid hz
  clear hU1 hz HC
  by_cases h2 : r2 ≠ 0
  · rw [if_pos h2] at hre
    subst hre
    have d : (r == 0) = false := beq_false_of_ne h2
    go_wp2
    have hy := (((HZ.out.set 0 (.int .i64 0)).set 1 (.int .i64 0)).set 2 (.slice none 0 0)).set 3 (.slice none 0 0)
    have k0 := hy.cell (j := 0) rfl
    have k1 := hy.cell (j := 1) rfl
    have k2 := hy.cell (j := 2) rfl
    have k3 := hy.cell (j := 3) rfl
    refine bodyPost_ret (v := .tuple #[.agg #[.int .i64 0, .int .i64 0, .slice none 0 0, .slice none 0 0], .int .i64 r]) ?_ rfl ⟨rfl, (((HU1.out.setCell (.inr (by simp)) _).setCell (.inr (by simp)) _).setCell (.inr (by simp)) _).setCell (.inr (by simp)) _⟩
    simp [results, Try.f16, go_sem, k0, k1, k2, k3]
  · obtain rfl : r2 = 0 := by omega
    rw [if_neg (by omega)] at hre
    by_cases h3 : m < 1
    · obtain rfl : r = 191 := by rw [hre, if_pos (.inl h3)]
      clear hre
      go_wp2
      have hy := (((HZ.out.set 0 (.int .i64 0)).set 1 (.int .i64 0)).set 2 (.slice none 0 0)).set 3 (.slice none 0 0)
      have k0 := hy.cell (j := 0) rfl
      have k1 := hy.cell (j := 1) rfl
      have k2 := hy.cell (j := 2) rfl
      have k3 := hy.cell (j := 3) rfl
      refine bodyPost_ret (v := .tuple #[.agg #[.int .i64 0, .int .i64 0, .slice none 0 0, .slice none 0 0], .int .i64 191]) ?_ rfl ⟨rfl, (((HU1.out.setCell (.inr (by simp)) _).setCell (.inr (by simp)) _).setCell (.inr (by simp)) _).setCell (.inr (by simp)) _⟩
      simp [results, Try.f16, go_sem, k0, k1, k2, k3]
    · have d3 : decide (m < 1) = false := decide_eq_false h3
      by_cases h4 : 5 < m
      · obtain rfl : r = 191 := by rw [hre, if_pos (.inr h4)]
        clear hre
        go_wp2
        have hy := (((HZ.out.set 0 (.int .i64 0)).set 1 (.int .i64 0)).set 2 (.slice none 0 0)).set 3 (.slice none 0 0)
        have k0 := hy.cell (j := 0) rfl
        have k1 := hy.cell (j := 1) rfl
        have k2 := hy.cell (j := 2) rfl
        have k3 := hy.cell (j := 3) rfl
        refine bodyPost_ret (v := .tuple #[.agg #[.int .i64 0, .int .i64 0, .slice none 0 0, .slice none 0 0], .int .i64 191]) ?_ rfl ⟨rfl, (((HU1.out.setCell (.inr (by simp)) _).setCell (.inr (by simp)) _).setCell (.inr (by simp)) _).setCell (.inr (by simp)) _⟩
        simp [results, Try.f16, go_sem, k0, k1, k2, k3]
      · have d4 : decide (5 < m) = false := decide_eq_false h4
        rw [if_neg (by omega)] at hre
        by_cases h5 : x < 0
        · obtain rfl : r = 192 := by rw [hre, if_pos (.inl h5)]
          clear hre
          go_wp2
          have hy := (((HZ.out.set 0 (.int .i64 0)).set 1 (.int .i64 0)).set 2 (.slice none 0 0)).set 3 (.slice none 0 0)
          have k0 := hy.cell (j := 0) rfl
          have k1 := hy.cell (j := 1) rfl
          have k2 := hy.cell (j := 2) rfl
          have k3 := hy.cell (j := 3) rfl
          refine bodyPost_ret (v := .tuple #[.agg #[.int .i64 0, .int .i64 0, .slice none 0 0, .slice none 0 0], .int .i64 192]) ?_ rfl ⟨rfl, (((HU1.out.setCell (.inr (by simp)) _).setCell (.inr (by simp)) _).setCell (.inr (by simp)) _).setCell (.inr (by simp)) _⟩
          simp [results, Try.f16, go_sem, k0, k1, k2, k3]
        · have d5 : decide (x < 0) = false := decide_eq_false h5
          have h6 : 1000000 < x := by
            apply Classical.byContradiction
            intro h6
            rw [if_neg (by omega)] at hre
            exact hc hre
          obtain rfl : r = 192 := by rw [hre, if_pos (.inr h6)]
          clear hre
          go_wp2
          have hy := (((HZ.out.set 0 (.int .i64 0)).set 1 (.int .i64 0)).set 2 (.slice none 0 0)).set 3 (.slice none 0 0)
          have k0 := hy.cell (j := 0) rfl
          have k1 := hy.cell (j := 1) rfl
          have k2 := hy.cell (j := 2) rfl
          have k3 := hy.cell (j := 3) rfl
          refine bodyPost_ret (v := .tuple #[.agg #[.int .i64 0, .int .i64 0, .slice none 0 0, .slice none 0 0], .int .i64 192]) ?_ rfl ⟨rfl, (((HU1.out.setCell (.inr (by simp)) _).setCell (.inr (by simp)) _).setCell (.inr (by simp)) _).setCell (.inr (by simp)) _⟩
          simp [results, Try.f16, go_sem, k0, k1, k2, k3]
end Go.Proofs.Ytdjpcinibgbglaa
