/- Package wide: divided. -/
import Derived.Test.YthbjpoiolmlpmaaGreatDoorWideL
set_option linter.unusedVariables false
set_option linter.unusedSimpArgs false
namespace Go.Proofs.YthbjpoiolmlpmaaGreatDoor
open Go.RowKit
abbrev lm (x : Nat) : List Value := [.int .u64 (wl x), .int .u64 (wh x)]
theorem lm0 : lm 0 = [Value.int .u64 0, Value.int .u64 0] := by unfold lm; rw [show wl ((0 : Nat) : Int) = 0 from rfl, show wh ((0 : Nat) : Int) = 0 from rfl]
theorem wrap_pow {t : Nat} (h : t < 64) : IntKind.u64.wrap (2 ^ t) = ((2 ^ t : Nat) : Int) := by
  have : 2 ^ t < 2 ^ 64 := Nat.pow_lt_pow_right (by decide) h
  rw [wrapU, show (2 : Int) ^ t = ((2 ^ t : Nat) : Int) from (Int.natCast_pow 2 t).symm]
  generalize 2 ^ t = y at *
  omega
set_option maxRecDepth 20000 in
set_option maxHeartbeats 8000000 in
theorem divided_calls (M N : Nat) (hM : M < 2 ^ 128) (h0 : 0 < N) (hN : N < 2 ^ 128) (w : World) :
    Calls Tryz.prog 75 #[.agg #[.int .u64 (wl M), .int .u64 (wh M)], .agg #[.int .u64 (wl N), .int .u64 (wh N)]] w
      fun e w' => e = .returned (.tuple #[.agg #[.int .u64 (wl (M / N : Nat)), .int .u64 (wh (M / N : Nat))], .agg #[.int .u64 (wl (M % N : Nat)), .int .u64 (wh (M % N : Nat))]]) ∧ Upd [] w w' := by
  go_enter Tryz.func75, Tryz.ntmps75
  go_wp2
  go_loopw [8] (fun i wr => ∃ k : Nat, k ≤ 128 ∧ i = .int .i64 ((k : Int) - 1) ∧ HB wr w.heap.size 145 (lm M) ∧ HB wr (w.heap.size + 1) 145 (lm N) ∧ HB wr (w.heap.size + 2) 145 [.int .u64 0, .int .u64 0] ∧ HB wr (w.heap.size + 3) 145 [.int .u64 0, .int .u64 0] ∧
    HB wr (w.heap.size + 4) 145 (lm (dq M N k)) ∧ HB wr (w.heap.size + 5) 145 (lm (dr M N k)) ∧ Upd [] w wr) (fun i _ => (intOf i + 1).toNat)
  case atStart =>
    refine ⟨128, Nat.le_refl _, rfl, ?_, ?_, ?_, ?_, ?_, ?_, ((((((Upd.refl _ _).alloc _).alloc _).alloc _).alloc _).alloc _).alloc _⟩
    · exact (((((HB.new w _ (lm M)).alloc _).alloc _).alloc _).alloc _).alloc _
    · exact ((((HB.new1 w _ _ (lm N)).alloc _).alloc _).alloc _).alloc _
    · have := HB.new ((w.alloc (.cells (lm M).toArray 145)).alloc (.cells (lm N).toArray 145)) 145 [.int .u64 0, .int .u64 0]
      have := ((this.alloc (.cells #[.int .u64 0, .int .u64 0] 145)).alloc (.cells #[.int .u64 0, .int .u64 0] 145)).alloc (.cells #[.int .u64 0, .int .u64 0] 145)
      simpa [Nat.add_assoc] using this
    · have := HB.new (((w.alloc (.cells (lm M).toArray 145)).alloc (.cells (lm N).toArray 145)).alloc (.cells #[.int .u64 0, .int .u64 0] 145)) 145 [.int .u64 0, .int .u64 0]
      have := (this.alloc (.cells #[.int .u64 0, .int .u64 0] 145)).alloc (.cells #[.int .u64 0, .int .u64 0] 145)
      simpa [Nat.add_assoc] using this
    · have := HB.new ((((w.alloc (.cells (lm M).toArray 145)).alloc (.cells (lm N).toArray 145)).alloc (.cells #[.int .u64 0, .int .u64 0] 145)).alloc (.cells #[.int .u64 0, .int .u64 0] 145)) 145 [.int .u64 0, .int .u64 0]
      have := this.alloc (.cells #[.int .u64 0, .int .u64 0] 145)
      rw [(d_top hM).1, lm0]
      simpa [Nat.add_assoc] using this
    · have := HB.new (((((w.alloc (.cells (lm M).toArray 145)).alloc (.cells (lm N).toArray 145)).alloc (.cells #[.int .u64 0, .int .u64 0] 145)).alloc (.cells #[.int .u64 0, .int .u64 0] 145)).alloc (.cells #[.int .u64 0, .int .u64 0] 145)) 145 [.int .u64 0, .int .u64 0]
      rw [(d_top hM).2, lm0]
      simpa [Nat.add_assoc] using this
  case round =>
    obtain ⟨k, hk, rfl, hm, hn, hz, hy, hq, hr, hU⟩ := hrel
    have HM := Lib.hid hm
    have HN := Lib.hid hn
    have HZ := Lib.hid hz
    have HY := Lib.hid hy
    have HQ := Lib.hid hq
    have HR := Lib.hid hr
    have HU := Lib.hid hU
    by_cases hlt : 0 < k
    · obtain ⟨j, rfl⟩ : ∃ j, k = j + 1 := ⟨k - 1, by omega⟩
      rw [show (((j + 1 : Nat) : Int) - 1) = (j : Int) by omega]
      have m0 := hm.cell (j := 0) rfl
      have m1 := hm.cell (j := 1) rfl
      have n0 := hn.cell (j := 0) rfl
      have n1 := hn.cell (j := 1) rfl
      have q0 := hq.cell (j := 0) rfl
      have q1 := hq.cell (j := 1) rfl
      have r0 := hr.cell (j := 0) rfl
      have r1 := hr.cell (j := 1) rfl
      have qf0 := hq.free 0
      have qf1 := hq.free 1
      have rf0 := hr.free 0
      have rf1 := hr.free 1
      clear hm hn hz hy hq hr hU
      have hd := dr_step M N j h0
      have he := dq_step M N j h0
      have hrlt : dr M N (j + 1) < N := Nat.mod_lt _ h0
      have hqlt : dq M N (j + 1) < 2 ^ 128 := dq_lt hM
      have hqm := dq_mod M N (j + 1)
      obtain ⟨b, hb⟩ : ∃ b, b = M / 2 ^ j % 2 := ⟨_, rfl⟩
      have hb2 : b < 2 := by omega
      rw [← hb] at hd he
      generalize dr M N (j + 1) = r at *
      generalize dq M N (j + 1) = q at *
      obtain ⟨eo0, eo1⟩ := r_shift r b (by omega) hb2
      obtain ⟨x, hx⟩ : ∃ x, x = (2 * r + b) % 2 ^ 128 := ⟨_, rfl⟩
      rw [← hx] at eo0 eo1
      have hxx := whl (x : Int)
      have hNN := whl (N : Int)
      have hxu := wl_u (x : Int)
      have hNu := wl_u (N : Int)
      have hrr : wh (r : Int) / 9223372036854775808 = if 2 ^ 127 ≤ r then 1 else 0 := by rw [wh_nat]; split <;> omega
      unfold U64 at hxu hNu
      by_cases h64 : 64 ≤ j
      · have t1 : (j : Int) / 64 = 1 := by omega
        have t2 : (j : Int).tdiv 64 = 1 := by rw [Int.tdiv_eq_ediv_of_nonneg (by omega)]; omega
        have ea : bits .and .u64 (wh (M : Int) / 2 ^ (j % 64)) 1 = (b : Int) := by
          rw [andOne _ (u_hi M _ hM), hb]
          exact (bit_hi M j h64).resolve_right (by omega)
        by_cases k1 : 2 ^ 127 ≤ r
        · have ob : wh (r : Int) / 9223372036854775808 = 1 := by rw [hrr, if_pos k1]
          have hge : N ≤ 2 * r + b := by omega
          rw [if_pos hge] at hd he
          have q1' := sub64z (wl (x : Int)) (wl (N : Int)) hxu.1 hNu.1 hNu.2
          have hbb := bor_le (wl (x : Int)) (wl (N : Int))
          have hwx : 0 ≤ wh (x : Int) := by rw [wh_nat]; omega
          have hwN : 0 ≤ wh (N : Int) ∧ wh (N : Int) ≤ 18446744073709551615 := by rw [wh_nat]; omega
          have q2' := sub64b (wh (x : Int)) (wh (N : Int)) (bor (wl (x : Int)) (wl (N : Int))) hwx hwN.1 hwN.2 hbb.1 hbb.2
          have s0 : (wl (x : Int) - wl (N : Int)) % 18446744073709551616 = wl ((dr M N j : Nat) : Int) := by rw [hd]; unfold wl; omega
          have s1 : (wh (x : Int) - wh (N : Int) - bor (wl (x : Int)) (wl (N : Int))) % 18446744073709551616 = wh ((dr M N j : Nat) : Int) := by rw [hd]; unfold bor; unfold wh wl; split <;> omega
          rw [s0] at q1'
          rw [s1] at q2'
          obtain ⟨bb, hbb2⟩ : ∃ bb, bb = bor (wl (x : Int)) (wl (N : Int)) := ⟨_, rfl⟩
          rw [← hbb2] at q1' q2'
          have g0 : IntKind.u64.wrap (2 ^ (j % 64)) = ((2 ^ (j % 64) : Nat) : Int) := wrap_pow (by omega)
          have hQ := q_hi q j h64 (by omega) hqlt hqm
          rw [← he] at hQ
          obtain ⟨g1, g2⟩ := hQ
          rw [Int.natCast_pow, show ((2 : Nat) : Int) = 2 from rfl] at g1 g0
          have HD := Lib.hid hd
          have HE := Lib.hid he
          clear hd he hge hxx hNN hrlt hqlt hqm hx hrr hb s0 s1 hbb hbb2 hwx hwN hxu hNu
          go_wp2
          go_region
          go_wp2_with (first | simp only [q1'] | simp only [q2'])
          refine ⟨⟨j, by omega, rfl, ?_, ?_, ?_, ?_, ?_, ?_, ?_⟩, by show ((j : Int) - 1 + 1).toNat < ((j : Int) + 1).toNat; omega⟩
          · repeat (first | with_reducible exact HM.out | with_reducible refine HB.drew ?_ | (with_reducible refine HB.setNe ?_ ?h _; case h => (dsimp only; omega)))
          · repeat (first | with_reducible exact HN.out | with_reducible refine HB.drew ?_ | (with_reducible refine HB.setNe ?_ ?h _; case h => (dsimp only; omega)))
          · repeat (first | with_reducible exact HZ.out | with_reducible refine HB.drew ?_ | (with_reducible refine HB.setNe ?_ ?h _; case h => (dsimp only; omega)))
          · repeat (first | with_reducible exact HY.out | with_reducible refine HB.drew ?_ | (with_reducible refine HB.setNe ?_ ?h _; case h => (dsimp only; omega)))
          · have e : lm (dq M N j) = (lm q).set 1 (Value.int .u64 (wh (dq M N j : Nat))) := by simp [lm, g2]
            rw [e]
            with_reducible refine HB.drew (HB.set ?_ 1 _)
            repeat (first | with_reducible exact HQ.out | with_reducible refine HB.drew ?_ | (with_reducible refine HB.setNe ?_ ?h _; case h => (dsimp only; omega)))
          · have e : lm (dr M N j) = ((((lm r).set 0 (Value.int .u64 (wl (x : Int)))).set 1 (Value.int .u64 (wh (x : Int)))).set 0 (Value.int .u64 (wl (dr M N j : Nat)))).set 1 (Value.int .u64 (wh (dr M N j : Nat))) := rfl
            rw [e]
            refine HB.drew (HB.setNe ?_ (by dsimp only; omega) _)
            with_reducible exact HB.set (HB.set (HB.set (HB.set HR.out 0 _) 1 _) 0 _) 1 _
          · repeat (first | with_reducible exact HU.out | with_reducible refine Upd.drew ?_ | (with_reducible refine Upd.setCell ?_ (.inr ?h) _; case h => (dsimp only; omega)))
        · have ob : wh (r : Int) / 9223372036854775808 = 0 := by rw [hrr, if_neg k1]
          have hx2 : x = 2 * r + b := by omega
          have eo2 : bits .or .u64 (wh (r : Int) * 2) (wl (r : Int) / 9223372036854775808) = wh (x : Int) := by rw [← show IntKind.u64.wrap (wh (r : Int) * 2) = wh (r : Int) * 2 by rw [wrapU, wh_nat]; omega]; exact eo1
          by_cases k2 : wh (N : Int) < wh (x : Int)
          · skip
            have hge : N ≤ 2 * r + b := by omega
            rw [if_pos hge] at hd he
            have q1' := sub64z (wl (x : Int)) (wl (N : Int)) hxu.1 hNu.1 hNu.2
            have hbb := bor_le (wl (x : Int)) (wl (N : Int))
            have hwx : 0 ≤ wh (x : Int) := by rw [wh_nat]; omega
            have hwN : 0 ≤ wh (N : Int) ∧ wh (N : Int) ≤ 18446744073709551615 := by rw [wh_nat]; omega
            have q2' := sub64b (wh (x : Int)) (wh (N : Int)) (bor (wl (x : Int)) (wl (N : Int))) hwx hwN.1 hwN.2 hbb.1 hbb.2
            have s0 : (wl (x : Int) - wl (N : Int)) % 18446744073709551616 = wl ((dr M N j : Nat) : Int) := by rw [hd]; unfold wl; omega
            have s1 : (wh (x : Int) - wh (N : Int) - bor (wl (x : Int)) (wl (N : Int))) % 18446744073709551616 = wh ((dr M N j : Nat) : Int) := by rw [hd]; unfold bor; unfold wh wl; split <;> omega
            rw [s0] at q1'
            rw [s1] at q2'
            obtain ⟨bb, hbb2⟩ : ∃ bb, bb = bor (wl (x : Int)) (wl (N : Int)) := ⟨_, rfl⟩
            rw [← hbb2] at q1' q2'
            have g0 : IntKind.u64.wrap (2 ^ (j % 64)) = ((2 ^ (j % 64) : Nat) : Int) := wrap_pow (by omega)
            have hQ := q_hi q j h64 (by omega) hqlt hqm
            rw [← he] at hQ
            obtain ⟨g1, g2⟩ := hQ
            rw [Int.natCast_pow, show ((2 : Nat) : Int) = 2 from rfl] at g1 g0
            have HD := Lib.hid hd
            have HE := Lib.hid he
            clear hd he hge hxx hNN hrlt hqlt hqm hx hrr hb s0 s1 hbb hbb2 hwx hwN hxu hNu hx2
            go_wp2
            go_region
            go_wp2_with (first | simp only [q1'] | simp only [q2'])
            refine ⟨⟨j, by omega, rfl, ?_, ?_, ?_, ?_, ?_, ?_, ?_⟩, by show ((j : Int) - 1 + 1).toNat < ((j : Int) + 1).toNat; omega⟩
            · repeat (first | with_reducible exact HM.out | with_reducible refine HB.drew ?_ | (with_reducible refine HB.setNe ?_ ?h _; case h => (dsimp only; omega)))
            · repeat (first | with_reducible exact HN.out | with_reducible refine HB.drew ?_ | (with_reducible refine HB.setNe ?_ ?h _; case h => (dsimp only; omega)))
            · repeat (first | with_reducible exact HZ.out | with_reducible refine HB.drew ?_ | (with_reducible refine HB.setNe ?_ ?h _; case h => (dsimp only; omega)))
            · repeat (first | with_reducible exact HY.out | with_reducible refine HB.drew ?_ | (with_reducible refine HB.setNe ?_ ?h _; case h => (dsimp only; omega)))
            · have e : lm (dq M N j) = (lm q).set 1 (Value.int .u64 (wh (dq M N j : Nat))) := by simp [lm, g2]
              rw [e]
              with_reducible refine HB.drew (HB.set ?_ 1 _)
              repeat (first | with_reducible exact HQ.out | with_reducible refine HB.drew ?_ | (with_reducible refine HB.setNe ?_ ?h _; case h => (dsimp only; omega)))
            · have e : lm (dr M N j) = ((((lm r).set 0 (Value.int .u64 (wl (x : Int)))).set 1 (Value.int .u64 (wh (x : Int)))).set 0 (Value.int .u64 (wl (dr M N j : Nat)))).set 1 (Value.int .u64 (wh (dr M N j : Nat))) := rfl
              rw [e]
              refine HB.drew (HB.setNe ?_ (by dsimp only; omega) _)
              with_reducible exact HB.set (HB.set (HB.set (HB.set HR.out 0 _) 1 _) 0 _) 1 _
            · repeat (first | with_reducible exact HU.out | with_reducible refine Upd.drew ?_ | (with_reducible refine Upd.setCell ?_ (.inr ?h) _; case h => (dsimp only; omega)))
          · have c2 : decide (wh (N : Int) < wh (x : Int)) = false := by simpa using k2
            by_cases k3 : wh (x : Int) = wh (N : Int)
            · have c3 : (wh (x : Int) == wh (N : Int)) = true := by simpa using k3
              by_cases k4 : wl (N : Int) ≤ wl (x : Int)
              · skip
                have hge : N ≤ 2 * r + b := by omega
                rw [if_pos hge] at hd he
                have q1' := sub64z (wl (x : Int)) (wl (N : Int)) hxu.1 hNu.1 hNu.2
                have hbb := bor_le (wl (x : Int)) (wl (N : Int))
                have hwx : 0 ≤ wh (x : Int) := by rw [wh_nat]; omega
                have hwN : 0 ≤ wh (N : Int) ∧ wh (N : Int) ≤ 18446744073709551615 := by rw [wh_nat]; omega
                have q2' := sub64b (wh (x : Int)) (wh (N : Int)) (bor (wl (x : Int)) (wl (N : Int))) hwx hwN.1 hwN.2 hbb.1 hbb.2
                have s0 : (wl (x : Int) - wl (N : Int)) % 18446744073709551616 = wl ((dr M N j : Nat) : Int) := by rw [hd]; unfold wl; omega
                have s1 : (wh (x : Int) - wh (N : Int) - bor (wl (x : Int)) (wl (N : Int))) % 18446744073709551616 = wh ((dr M N j : Nat) : Int) := by rw [hd]; unfold bor; unfold wh wl; split <;> omega
                rw [s0] at q1'
                rw [s1] at q2'
                obtain ⟨bb, hbb2⟩ : ∃ bb, bb = bor (wl (x : Int)) (wl (N : Int)) := ⟨_, rfl⟩
                rw [← hbb2] at q1' q2'
                have g0 : IntKind.u64.wrap (2 ^ (j % 64)) = ((2 ^ (j % 64) : Nat) : Int) := wrap_pow (by omega)
                have hQ := q_hi q j h64 (by omega) hqlt hqm
                rw [← he] at hQ
                obtain ⟨g1, g2⟩ := hQ
                rw [Int.natCast_pow, show ((2 : Nat) : Int) = 2 from rfl] at g1 g0
                have HD := Lib.hid hd
                have HE := Lib.hid he
                clear hd he hge hxx hNN hrlt hqlt hqm hx hrr hb s0 s1 hbb hbb2 hwx hwN hxu hNu hx2
                rw [k3] at q2'
                go_wp2
                go_region
                go_wp2_with (first | simp only [q1'] | simp only [q2'])
                refine ⟨⟨j, by omega, rfl, ?_, ?_, ?_, ?_, ?_, ?_, ?_⟩, by show ((j : Int) - 1 + 1).toNat < ((j : Int) + 1).toNat; omega⟩
                · repeat (first | with_reducible exact HM.out | with_reducible refine HB.drew ?_ | (with_reducible refine HB.setNe ?_ ?h _; case h => (dsimp only; omega)))
                · repeat (first | with_reducible exact HN.out | with_reducible refine HB.drew ?_ | (with_reducible refine HB.setNe ?_ ?h _; case h => (dsimp only; omega)))
                · repeat (first | with_reducible exact HZ.out | with_reducible refine HB.drew ?_ | (with_reducible refine HB.setNe ?_ ?h _; case h => (dsimp only; omega)))
                · repeat (first | with_reducible exact HY.out | with_reducible refine HB.drew ?_ | (with_reducible refine HB.setNe ?_ ?h _; case h => (dsimp only; omega)))
                · have e : lm (dq M N j) = (lm q).set 1 (Value.int .u64 (wh (dq M N j : Nat))) := by simp [lm, g2]
                  rw [e]
                  with_reducible refine HB.drew (HB.set ?_ 1 _)
                  repeat (first | with_reducible exact HQ.out | with_reducible refine HB.drew ?_ | (with_reducible refine HB.setNe ?_ ?h _; case h => (dsimp only; omega)))
                · have e : lm (dr M N j) = ((((lm r).set 0 (Value.int .u64 (wl (x : Int)))).set 1 (Value.int .u64 (wh (N : Int)))).set 0 (Value.int .u64 (wl (dr M N j : Nat)))).set 1 (Value.int .u64 (wh (dr M N j : Nat))) := rfl
                  rw [e]
                  refine HB.drew (HB.setNe ?_ (by dsimp only; omega) _)
                  with_reducible exact HB.set (HB.set (HB.set (HB.set HR.out 0 _) 1 _) 0 _) 1 _
                · repeat (first | with_reducible exact HU.out | with_reducible refine Upd.drew ?_ | (with_reducible refine Upd.setCell ?_ (.inr ?h) _; case h => (dsimp only; omega)))
              · have c4 : decide (wl (N : Int) ≤ wl (x : Int)) = false := by simpa using k4
                have hge : ¬ N ≤ 2 * r + b := by omega
                rw [if_neg hge] at hd he
                simp only [Nat.sub_zero, Nat.add_zero] at hd he
                have HXR := Lib.hid (show x = dr M N j by omega)
                have HD := Lib.hid hd
                have HE := Lib.hid he
                clear hd he hge hxx hNN hrlt hqlt hqm hx hrr hb hxu hNu hx2
                go_wp2
                go_region
                go_wp2
                refine ⟨⟨j, by omega, rfl, ?_, ?_, ?_, ?_, ?_, ?_, ?_⟩, by show ((j : Int) - 1 + 1).toNat < ((j : Int) + 1).toNat; omega⟩
                · repeat (first | with_reducible exact HM.out | with_reducible refine HB.drew ?_ | (with_reducible refine HB.setNe ?_ ?h _; case h => (dsimp only; omega)))
                · repeat (first | with_reducible exact HN.out | with_reducible refine HB.drew ?_ | (with_reducible refine HB.setNe ?_ ?h _; case h => (dsimp only; omega)))
                · repeat (first | with_reducible exact HZ.out | with_reducible refine HB.drew ?_ | (with_reducible refine HB.setNe ?_ ?h _; case h => (dsimp only; omega)))
                · repeat (first | with_reducible exact HY.out | with_reducible refine HB.drew ?_ | (with_reducible refine HB.setNe ?_ ?h _; case h => (dsimp only; omega)))
                · rw [HE.out]
                  repeat (first | with_reducible exact HQ.out | with_reducible refine HB.drew ?_ | (with_reducible refine HB.setNe ?_ ?h _; case h => (dsimp only; omega)))
                · have e : lm (dr M N j) = ((lm r).set 0 (Value.int .u64 (wl (x : Int)))).set 1 (Value.int .u64 (wh (N : Int))) := by rw [← HXR.out]; simp [lm, k3]
                  rw [e]
                  first | with_reducible exact HB.drew (HB.set (HB.set HR.out 0 _) 1 _) | with_reducible exact (HB.set (HB.set HR.out 0 _) 1 _)
                · repeat (first | with_reducible exact HU.out | with_reducible refine Upd.drew ?_ | (with_reducible refine Upd.setCell ?_ (.inr ?h) _; case h => (dsimp only; omega)))
            · have c3 : (wh (x : Int) == wh (N : Int)) = false := by simpa using k3
              have hge : ¬ N ≤ 2 * r + b := by omega
              rw [if_neg hge] at hd he
              simp only [Nat.sub_zero, Nat.add_zero] at hd he
              have HXR := Lib.hid (show x = dr M N j by omega)
              have HD := Lib.hid hd
              have HE := Lib.hid he
              clear hd he hge hxx hNN hrlt hqlt hqm hx hrr hb hxu hNu hx2
              go_wp2
              go_region
              go_wp2
              refine ⟨⟨j, by omega, rfl, ?_, ?_, ?_, ?_, ?_, ?_, ?_⟩, by show ((j : Int) - 1 + 1).toNat < ((j : Int) + 1).toNat; omega⟩
              · repeat (first | with_reducible exact HM.out | with_reducible refine HB.drew ?_ | (with_reducible refine HB.setNe ?_ ?h _; case h => (dsimp only; omega)))
              · repeat (first | with_reducible exact HN.out | with_reducible refine HB.drew ?_ | (with_reducible refine HB.setNe ?_ ?h _; case h => (dsimp only; omega)))
              · repeat (first | with_reducible exact HZ.out | with_reducible refine HB.drew ?_ | (with_reducible refine HB.setNe ?_ ?h _; case h => (dsimp only; omega)))
              · repeat (first | with_reducible exact HY.out | with_reducible refine HB.drew ?_ | (with_reducible refine HB.setNe ?_ ?h _; case h => (dsimp only; omega)))
              · rw [HE.out]
                repeat (first | with_reducible exact HQ.out | with_reducible refine HB.drew ?_ | (with_reducible refine HB.setNe ?_ ?h _; case h => (dsimp only; omega)))
              · have e : lm (dr M N j) = ((lm r).set 0 (Value.int .u64 (wl (x : Int)))).set 1 (Value.int .u64 (wh (x : Int))) := by rw [← HXR.out]; rfl
                rw [e]
                first | with_reducible exact HB.drew (HB.set (HB.set HR.out 0 _) 1 _) | with_reducible exact (HB.set (HB.set HR.out 0 _) 1 _)
              · repeat (first | with_reducible exact HU.out | with_reducible refine Upd.drew ?_ | (with_reducible refine Upd.setCell ?_ (.inr ?h) _; case h => (dsimp only; omega)))
      · have t1 : (j : Int) / 64 = 0 := by omega
        have t2 : (j : Int).tdiv 64 = 0 := by rw [Int.tdiv_eq_ediv_of_nonneg (by omega)]; omega
        have ea : bits .and .u64 (wl (M : Int) / 2 ^ (j % 64)) 1 = (b : Int) := by
          rw [andOne _ (u_lo M _), hb]
          exact bit_lo M j (by omega)
        by_cases k1 : 2 ^ 127 ≤ r
        · have ob : wh (r : Int) / 9223372036854775808 = 1 := by rw [hrr, if_pos k1]
          have hge : N ≤ 2 * r + b := by omega
          rw [if_pos hge] at hd he
          have q1' := sub64z (wl (x : Int)) (wl (N : Int)) hxu.1 hNu.1 hNu.2
          have hbb := bor_le (wl (x : Int)) (wl (N : Int))
          have hwx : 0 ≤ wh (x : Int) := by rw [wh_nat]; omega
          have hwN : 0 ≤ wh (N : Int) ∧ wh (N : Int) ≤ 18446744073709551615 := by rw [wh_nat]; omega
          have q2' := sub64b (wh (x : Int)) (wh (N : Int)) (bor (wl (x : Int)) (wl (N : Int))) hwx hwN.1 hwN.2 hbb.1 hbb.2
          have s0 : (wl (x : Int) - wl (N : Int)) % 18446744073709551616 = wl ((dr M N j : Nat) : Int) := by rw [hd]; unfold wl; omega
          have s1 : (wh (x : Int) - wh (N : Int) - bor (wl (x : Int)) (wl (N : Int))) % 18446744073709551616 = wh ((dr M N j : Nat) : Int) := by rw [hd]; unfold bor; unfold wh wl; split <;> omega
          rw [s0] at q1'
          rw [s1] at q2'
          obtain ⟨bb, hbb2⟩ : ∃ bb, bb = bor (wl (x : Int)) (wl (N : Int)) := ⟨_, rfl⟩
          rw [← hbb2] at q1' q2'
          have g0 : IntKind.u64.wrap (2 ^ (j % 64)) = ((2 ^ (j % 64) : Nat) : Int) := wrap_pow (by omega)
          have hQ := q_lo q j (by omega) hqlt hqm
          rw [← he] at hQ
          obtain ⟨g1, g2⟩ := hQ
          rw [Int.natCast_pow, show ((2 : Nat) : Int) = 2 from rfl] at g1 g0
          have HD := Lib.hid hd
          have HE := Lib.hid he
          clear hd he hge hxx hNN hrlt hqlt hqm hx hrr hb s0 s1 hbb hbb2 hwx hwN hxu hNu
          go_wp2
          go_region
          go_wp2_with (first | simp only [q1'] | simp only [q2'])
          refine ⟨⟨j, by omega, rfl, ?_, ?_, ?_, ?_, ?_, ?_, ?_⟩, by show ((j : Int) - 1 + 1).toNat < ((j : Int) + 1).toNat; omega⟩
          · repeat (first | with_reducible exact HM.out | with_reducible refine HB.drew ?_ | (with_reducible refine HB.setNe ?_ ?h _; case h => (dsimp only; omega)))
          · repeat (first | with_reducible exact HN.out | with_reducible refine HB.drew ?_ | (with_reducible refine HB.setNe ?_ ?h _; case h => (dsimp only; omega)))
          · repeat (first | with_reducible exact HZ.out | with_reducible refine HB.drew ?_ | (with_reducible refine HB.setNe ?_ ?h _; case h => (dsimp only; omega)))
          · repeat (first | with_reducible exact HY.out | with_reducible refine HB.drew ?_ | (with_reducible refine HB.setNe ?_ ?h _; case h => (dsimp only; omega)))
          · have e : lm (dq M N j) = (lm q).set 0 (Value.int .u64 (wl (dq M N j : Nat))) := by simp [lm, g2]
            rw [e]
            with_reducible refine HB.drew (HB.set ?_ 0 _)
            repeat (first | with_reducible exact HQ.out | with_reducible refine HB.drew ?_ | (with_reducible refine HB.setNe ?_ ?h _; case h => (dsimp only; omega)))
          · have e : lm (dr M N j) = ((((lm r).set 0 (Value.int .u64 (wl (x : Int)))).set 1 (Value.int .u64 (wh (x : Int)))).set 0 (Value.int .u64 (wl (dr M N j : Nat)))).set 1 (Value.int .u64 (wh (dr M N j : Nat))) := rfl
            rw [e]
            refine HB.drew (HB.setNe ?_ (by dsimp only; omega) _)
            with_reducible exact HB.set (HB.set (HB.set (HB.set HR.out 0 _) 1 _) 0 _) 1 _
          · repeat (first | with_reducible exact HU.out | with_reducible refine Upd.drew ?_ | (with_reducible refine Upd.setCell ?_ (.inr ?h) _; case h => (dsimp only; omega)))
        · have ob : wh (r : Int) / 9223372036854775808 = 0 := by rw [hrr, if_neg k1]
          have hx2 : x = 2 * r + b := by omega
          have eo2 : bits .or .u64 (wh (r : Int) * 2) (wl (r : Int) / 9223372036854775808) = wh (x : Int) := by rw [← show IntKind.u64.wrap (wh (r : Int) * 2) = wh (r : Int) * 2 by rw [wrapU, wh_nat]; omega]; exact eo1
          by_cases k2 : wh (N : Int) < wh (x : Int)
          · skip
            have hge : N ≤ 2 * r + b := by omega
            rw [if_pos hge] at hd he
            have q1' := sub64z (wl (x : Int)) (wl (N : Int)) hxu.1 hNu.1 hNu.2
            have hbb := bor_le (wl (x : Int)) (wl (N : Int))
            have hwx : 0 ≤ wh (x : Int) := by rw [wh_nat]; omega
            have hwN : 0 ≤ wh (N : Int) ∧ wh (N : Int) ≤ 18446744073709551615 := by rw [wh_nat]; omega
            have q2' := sub64b (wh (x : Int)) (wh (N : Int)) (bor (wl (x : Int)) (wl (N : Int))) hwx hwN.1 hwN.2 hbb.1 hbb.2
            have s0 : (wl (x : Int) - wl (N : Int)) % 18446744073709551616 = wl ((dr M N j : Nat) : Int) := by rw [hd]; unfold wl; omega
            have s1 : (wh (x : Int) - wh (N : Int) - bor (wl (x : Int)) (wl (N : Int))) % 18446744073709551616 = wh ((dr M N j : Nat) : Int) := by rw [hd]; unfold bor; unfold wh wl; split <;> omega
            rw [s0] at q1'
            rw [s1] at q2'
            obtain ⟨bb, hbb2⟩ : ∃ bb, bb = bor (wl (x : Int)) (wl (N : Int)) := ⟨_, rfl⟩
            rw [← hbb2] at q1' q2'
            have g0 : IntKind.u64.wrap (2 ^ (j % 64)) = ((2 ^ (j % 64) : Nat) : Int) := wrap_pow (by omega)
            have hQ := q_lo q j (by omega) hqlt hqm
            rw [← he] at hQ
            obtain ⟨g1, g2⟩ := hQ
            rw [Int.natCast_pow, show ((2 : Nat) : Int) = 2 from rfl] at g1 g0
            have HD := Lib.hid hd
            have HE := Lib.hid he
            clear hd he hge hxx hNN hrlt hqlt hqm hx hrr hb s0 s1 hbb hbb2 hwx hwN hxu hNu hx2
            go_wp2
            go_region
            go_wp2_with (first | simp only [q1'] | simp only [q2'])
            refine ⟨⟨j, by omega, rfl, ?_, ?_, ?_, ?_, ?_, ?_, ?_⟩, by show ((j : Int) - 1 + 1).toNat < ((j : Int) + 1).toNat; omega⟩
            · repeat (first | with_reducible exact HM.out | with_reducible refine HB.drew ?_ | (with_reducible refine HB.setNe ?_ ?h _; case h => (dsimp only; omega)))
            · repeat (first | with_reducible exact HN.out | with_reducible refine HB.drew ?_ | (with_reducible refine HB.setNe ?_ ?h _; case h => (dsimp only; omega)))
            · repeat (first | with_reducible exact HZ.out | with_reducible refine HB.drew ?_ | (with_reducible refine HB.setNe ?_ ?h _; case h => (dsimp only; omega)))
            · repeat (first | with_reducible exact HY.out | with_reducible refine HB.drew ?_ | (with_reducible refine HB.setNe ?_ ?h _; case h => (dsimp only; omega)))
            · have e : lm (dq M N j) = (lm q).set 0 (Value.int .u64 (wl (dq M N j : Nat))) := by simp [lm, g2]
              rw [e]
              with_reducible refine HB.drew (HB.set ?_ 0 _)
              repeat (first | with_reducible exact HQ.out | with_reducible refine HB.drew ?_ | (with_reducible refine HB.setNe ?_ ?h _; case h => (dsimp only; omega)))
            · have e : lm (dr M N j) = ((((lm r).set 0 (Value.int .u64 (wl (x : Int)))).set 1 (Value.int .u64 (wh (x : Int)))).set 0 (Value.int .u64 (wl (dr M N j : Nat)))).set 1 (Value.int .u64 (wh (dr M N j : Nat))) := rfl
              rw [e]
              refine HB.drew (HB.setNe ?_ (by dsimp only; omega) _)
              with_reducible exact HB.set (HB.set (HB.set (HB.set HR.out 0 _) 1 _) 0 _) 1 _
            · repeat (first | with_reducible exact HU.out | with_reducible refine Upd.drew ?_ | (with_reducible refine Upd.setCell ?_ (.inr ?h) _; case h => (dsimp only; omega)))
          · have c2 : decide (wh (N : Int) < wh (x : Int)) = false := by simpa using k2
            by_cases k3 : wh (x : Int) = wh (N : Int)
            · have c3 : (wh (x : Int) == wh (N : Int)) = true := by simpa using k3
              by_cases k4 : wl (N : Int) ≤ wl (x : Int)
              · skip
                have hge : N ≤ 2 * r + b := by omega
                rw [if_pos hge] at hd he
                have q1' := sub64z (wl (x : Int)) (wl (N : Int)) hxu.1 hNu.1 hNu.2
                have hbb := bor_le (wl (x : Int)) (wl (N : Int))
                have hwx : 0 ≤ wh (x : Int) := by rw [wh_nat]; omega
                have hwN : 0 ≤ wh (N : Int) ∧ wh (N : Int) ≤ 18446744073709551615 := by rw [wh_nat]; omega
                have q2' := sub64b (wh (x : Int)) (wh (N : Int)) (bor (wl (x : Int)) (wl (N : Int))) hwx hwN.1 hwN.2 hbb.1 hbb.2
                have s0 : (wl (x : Int) - wl (N : Int)) % 18446744073709551616 = wl ((dr M N j : Nat) : Int) := by rw [hd]; unfold wl; omega
                have s1 : (wh (x : Int) - wh (N : Int) - bor (wl (x : Int)) (wl (N : Int))) % 18446744073709551616 = wh ((dr M N j : Nat) : Int) := by rw [hd]; unfold bor; unfold wh wl; split <;> omega
                rw [s0] at q1'
                rw [s1] at q2'
                obtain ⟨bb, hbb2⟩ : ∃ bb, bb = bor (wl (x : Int)) (wl (N : Int)) := ⟨_, rfl⟩
                rw [← hbb2] at q1' q2'
                have g0 : IntKind.u64.wrap (2 ^ (j % 64)) = ((2 ^ (j % 64) : Nat) : Int) := wrap_pow (by omega)
                have hQ := q_lo q j (by omega) hqlt hqm
                rw [← he] at hQ
                obtain ⟨g1, g2⟩ := hQ
                rw [Int.natCast_pow, show ((2 : Nat) : Int) = 2 from rfl] at g1 g0
                have HD := Lib.hid hd
                have HE := Lib.hid he
                clear hd he hge hxx hNN hrlt hqlt hqm hx hrr hb s0 s1 hbb hbb2 hwx hwN hxu hNu hx2
                rw [k3] at q2'
                go_wp2
                go_region
                go_wp2_with (first | simp only [q1'] | simp only [q2'])
                refine ⟨⟨j, by omega, rfl, ?_, ?_, ?_, ?_, ?_, ?_, ?_⟩, by show ((j : Int) - 1 + 1).toNat < ((j : Int) + 1).toNat; omega⟩
                · repeat (first | with_reducible exact HM.out | with_reducible refine HB.drew ?_ | (with_reducible refine HB.setNe ?_ ?h _; case h => (dsimp only; omega)))
                · repeat (first | with_reducible exact HN.out | with_reducible refine HB.drew ?_ | (with_reducible refine HB.setNe ?_ ?h _; case h => (dsimp only; omega)))
                · repeat (first | with_reducible exact HZ.out | with_reducible refine HB.drew ?_ | (with_reducible refine HB.setNe ?_ ?h _; case h => (dsimp only; omega)))
                · repeat (first | with_reducible exact HY.out | with_reducible refine HB.drew ?_ | (with_reducible refine HB.setNe ?_ ?h _; case h => (dsimp only; omega)))
                · have e : lm (dq M N j) = (lm q).set 0 (Value.int .u64 (wl (dq M N j : Nat))) := by simp [lm, g2]
                  rw [e]
                  with_reducible refine HB.drew (HB.set ?_ 0 _)
                  repeat (first | with_reducible exact HQ.out | with_reducible refine HB.drew ?_ | (with_reducible refine HB.setNe ?_ ?h _; case h => (dsimp only; omega)))
                · have e : lm (dr M N j) = ((((lm r).set 0 (Value.int .u64 (wl (x : Int)))).set 1 (Value.int .u64 (wh (N : Int)))).set 0 (Value.int .u64 (wl (dr M N j : Nat)))).set 1 (Value.int .u64 (wh (dr M N j : Nat))) := rfl
                  rw [e]
                  refine HB.drew (HB.setNe ?_ (by dsimp only; omega) _)
                  with_reducible exact HB.set (HB.set (HB.set (HB.set HR.out 0 _) 1 _) 0 _) 1 _
                · repeat (first | with_reducible exact HU.out | with_reducible refine Upd.drew ?_ | (with_reducible refine Upd.setCell ?_ (.inr ?h) _; case h => (dsimp only; omega)))
              · have c4 : decide (wl (N : Int) ≤ wl (x : Int)) = false := by simpa using k4
                have hge : ¬ N ≤ 2 * r + b := by omega
                rw [if_neg hge] at hd he
                simp only [Nat.sub_zero, Nat.add_zero] at hd he
                have HXR := Lib.hid (show x = dr M N j by omega)
                have HD := Lib.hid hd
                have HE := Lib.hid he
                clear hd he hge hxx hNN hrlt hqlt hqm hx hrr hb hxu hNu hx2
                go_wp2
                go_region
                go_wp2
                refine ⟨⟨j, by omega, rfl, ?_, ?_, ?_, ?_, ?_, ?_, ?_⟩, by show ((j : Int) - 1 + 1).toNat < ((j : Int) + 1).toNat; omega⟩
                · repeat (first | with_reducible exact HM.out | with_reducible refine HB.drew ?_ | (with_reducible refine HB.setNe ?_ ?h _; case h => (dsimp only; omega)))
                · repeat (first | with_reducible exact HN.out | with_reducible refine HB.drew ?_ | (with_reducible refine HB.setNe ?_ ?h _; case h => (dsimp only; omega)))
                · repeat (first | with_reducible exact HZ.out | with_reducible refine HB.drew ?_ | (with_reducible refine HB.setNe ?_ ?h _; case h => (dsimp only; omega)))
                · repeat (first | with_reducible exact HY.out | with_reducible refine HB.drew ?_ | (with_reducible refine HB.setNe ?_ ?h _; case h => (dsimp only; omega)))
                · rw [HE.out]
                  repeat (first | with_reducible exact HQ.out | with_reducible refine HB.drew ?_ | (with_reducible refine HB.setNe ?_ ?h _; case h => (dsimp only; omega)))
                · have e : lm (dr M N j) = ((lm r).set 0 (Value.int .u64 (wl (x : Int)))).set 1 (Value.int .u64 (wh (N : Int))) := by rw [← HXR.out]; simp [lm, k3]
                  rw [e]
                  first | with_reducible exact HB.drew (HB.set (HB.set HR.out 0 _) 1 _) | with_reducible exact (HB.set (HB.set HR.out 0 _) 1 _)
                · repeat (first | with_reducible exact HU.out | with_reducible refine Upd.drew ?_ | (with_reducible refine Upd.setCell ?_ (.inr ?h) _; case h => (dsimp only; omega)))
            · have c3 : (wh (x : Int) == wh (N : Int)) = false := by simpa using k3
              have hge : ¬ N ≤ 2 * r + b := by omega
              rw [if_neg hge] at hd he
              simp only [Nat.sub_zero, Nat.add_zero] at hd he
              have HXR := Lib.hid (show x = dr M N j by omega)
              have HD := Lib.hid hd
              have HE := Lib.hid he
              clear hd he hge hxx hNN hrlt hqlt hqm hx hrr hb hxu hNu hx2
              go_wp2
              go_region
              go_wp2
              refine ⟨⟨j, by omega, rfl, ?_, ?_, ?_, ?_, ?_, ?_, ?_⟩, by show ((j : Int) - 1 + 1).toNat < ((j : Int) + 1).toNat; omega⟩
              · repeat (first | with_reducible exact HM.out | with_reducible refine HB.drew ?_ | (with_reducible refine HB.setNe ?_ ?h _; case h => (dsimp only; omega)))
              · repeat (first | with_reducible exact HN.out | with_reducible refine HB.drew ?_ | (with_reducible refine HB.setNe ?_ ?h _; case h => (dsimp only; omega)))
              · repeat (first | with_reducible exact HZ.out | with_reducible refine HB.drew ?_ | (with_reducible refine HB.setNe ?_ ?h _; case h => (dsimp only; omega)))
              · repeat (first | with_reducible exact HY.out | with_reducible refine HB.drew ?_ | (with_reducible refine HB.setNe ?_ ?h _; case h => (dsimp only; omega)))
              · rw [HE.out]
                repeat (first | with_reducible exact HQ.out | with_reducible refine HB.drew ?_ | (with_reducible refine HB.setNe ?_ ?h _; case h => (dsimp only; omega)))
              · have e : lm (dr M N j) = ((lm r).set 0 (Value.int .u64 (wl (x : Int)))).set 1 (Value.int .u64 (wh (x : Int))) := by rw [← HXR.out]; rfl
                rw [e]
                first | with_reducible exact HB.drew (HB.set (HB.set HR.out 0 _) 1 _) | with_reducible exact (HB.set (HB.set HR.out 0 _) 1 _)
              · repeat (first | with_reducible exact HU.out | with_reducible refine Upd.drew ?_ | (with_reducible refine Upd.setCell ?_ (.inr ?h) _; case h => (dsimp only; omega)))
    · obtain rfl : k = 0 := by omega
      rw [show (((0 : Nat) : Int) - 1) = -1 from rfl]
      rw [(d_end M N).1] at hq
      rw [(d_end M N).2] at hr
      have q0 := hq.cell (j := 0) rfl
      have q1 := hq.cell (j := 1) rfl
      have r0 := hr.cell (j := 0) rfl
      have r1 := hr.cell (j := 1) rfl
      have z0 := hz.cell (j := 0) rfl
      have z1 := hz.cell (j := 1) rfl
      have y0 := hy.cell (j := 0) rfl
      have y1 := hy.cell (j := 1) rfl
      have zf0 := hz.free 0
      have zf1 := hz.free 1
      have yf0 := hy.free 0
      have yf1 := hy.free 1
      clear hm hn hz hy hq hr hU
      obtain ⟨q, hq'⟩ : ∃ q, q = M / N := ⟨_, rfl⟩
      obtain ⟨r, hr'⟩ : ∃ r, r = M % N := ⟨_, rfl⟩
      rw [← hq'] at q0 q1
      rw [← hr'] at r0 r1
      have E1 := Lib.hid hq'
      have E2 := Lib.hid hr'
      clear hq' hr'
      go_wp2
      go_region
      go_wp2
      have hz' := (((((HZ.out.set 0 (.int .u64 (wl q))).set 1 (.int .u64 (wh q))).setNe (p := ⟨w.heap.size + 1 + 1 + 1, 0, none⟩) (by dsimp only; omega) (.int .u64 (wl r))).setNe (p := ⟨w.heap.size + 1 + 1 + 1, 1, none⟩) (by dsimp only; omega) (.int .u64 (wh r)))).drew
      have hy' := (((((HY.out.setNe (p := ⟨w.heap.size + 1 + 1, 0, none⟩) (by dsimp only; omega) (.int .u64 (wl q))).setNe (p := ⟨w.heap.size + 1 + 1, 1, none⟩) (by dsimp only; omega) (.int .u64 (wh q))).set 0 (.int .u64 (wl r))).set 1 (.int .u64 (wh r)))).drew
      have k0 := hz'.cell (j := 0) rfl
      have k1 := hz'.cell (j := 1) rfl
      have k2 := hy'.cell (j := 0) rfl
      have k3 := hy'.cell (j := 1) rfl
      refine bodyPost_ret (v := .tuple #[.agg #[.int .u64 (wl q), .int .u64 (wh q)], .agg #[.int .u64 (wl r), .int .u64 (wh r)]]) ?_ rfl ⟨by rw [E1.out, E2.out], ?_⟩
      · simp [results, Tryz.f75, go_sem, k0, k1, k2, k3]
      · repeat (first | with_reducible exact HU.out | with_reducible refine Upd.drew ?_ | (with_reducible refine Upd.setCell ?_ (.inr ?h) _; case h => (dsimp only; omega)))
end Go.Proofs.YthbjpoiolmlpmaaGreatDoor
