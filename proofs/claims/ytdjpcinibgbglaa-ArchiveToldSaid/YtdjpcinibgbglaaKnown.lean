/- (*band).known. -/
import Derived.Test.YtdjpcinibgbglaaFile
set_option linter.unusedVariables false
set_option linter.unusedSimpArgs false
namespace Go.Proofs.Ytdjpcinibgbglaa
open Go.RowKit
theorem wzero : wh 0 = 0 ∧ wl 0 = 0 := ⟨rfl, rfl⟩
set_option maxHeartbeats 1000000 in
theorem known_calls (L : Loc) (b : Band) (t : Int) (w : World) (hB : BandAt w L b) (hs : 1 ≤ b.step) (hn : 1 ≤ b.n) (hn2 : b.n ≤ 4096) (ht : t ≤ 4611686018427387904) :
    Calls Try.prog 47 #[pB L.b, .int .i64 t] w fun e w' => e = .returned (.tuple #[wide ((b.known t).getD 0), .bool (b.known t).isSome]) ∧ Upd [] w w' := by
  have hz := HB.new w 47 [.int .i64 0, .int .u64 0]
  by_cases h0 : t < 0
  · have e0 : b.known t = none := by unfold Band.known; rw [if_pos h0]
    rw [e0]
    have z0 := hz.cell (j := 0) rfl
    have z1 := hz.cell (j := 1) rfl
    have zf0 := hz.free 0
    have zf1 := hz.free 1
    go_enter Try.func47, Try.ntmps47
    go_wp2
    have hy := (hz.set 0 (.int .i64 0)).set 1 (.int .u64 0)
    have y0 := hy.cell (j := 0) rfl
    have y1 := hy.cell (j := 1) rfl
    refine bodyPost_ret (v := .tuple #[.agg #[.int .i64 0, .int .u64 0], .bool false]) ?_ rfl ⟨rfl, ?_⟩
    · simp [results, Try.f47, go_sem, y0, y1]
    · repeat (first | with_reducible exact Upd.refl _ _ | with_reducible refine Upd.alloc ?_ _ | (with_reducible refine Upd.setCell ?_ (.inr ?h) _; case h => (dsimp only; omega)))
  · have hp := place_nat hs hn (show 0 ≤ t by omega)
    obtain ⟨x, hx⟩ : ∃ x, b.pl[b.place t]? = some x := ⟨_, List.getElem?_eq_getElem hp.2⟩
    obtain ⟨k, hk⟩ : ∃ k, k = b.place t := ⟨_, rfl⟩
    have hPC := Lib.hid (fun W (hW : Upd [] w W) => place_calls L.b L.l L.i b t W (hB.hb.upd hW (by simp)) hs hn hn2 ⟨by omega, ht⟩)
    rw [← hk] at hx hp hPC
    have HX := Lib.hid hx
    have z0 := hz.cell (j := 0) rfl
    have z1 := hz.cell (j := 1) rfl
    have zf0 := hz.free 0
    have zf1 := hz.free 1
    have hB0 := hB.upd0 ((Upd.refl [] w).alloc (.cells #[.int .i64 0, .int .u64 0] 47))
    obtain ⟨W0, hW0⟩ : ∃ W0, W0 = w.alloc (.cells #[.int .i64 0, .int .u64 0] 47) := ⟨_, rfl⟩
    have hU0 := Lib.hid (show Upd [] w W0 by rw [hW0]; exact (Upd.refl _ _).alloc _)
    rw [← hW0] at hB0 hz z0 z1 zf0 zf1
    have a0 := hB0.hb.cell (j := 2) rfl
    have a1 := hB0.hb.cell (j := 3) rfl
    have r0 := hB0.fl hx
    have hkI : (k : Int) < (b.n : Int) := by omega
    have HZ := Lib.hid hz
    have HB1 := Lib.hid hB0.hb
    have HI1 := Lib.hid hB0.hi
    have hnlt : w.heap.size < W0.heap.size := by rw [hW0]; simp
    have HLT := Lib.hid hnlt
    have HNC : ∀ (o : Obj) (n : Nat), (((W0.drewN n).alloc o).heap.size) = W0.heap.size + 1 := fun o n => by simp
    rcases x with _ | ⟨t', v'⟩
    · have e0 : b.known t = none := by unfold Band.known; rw [if_neg h0, ← hk, HX.out]
      rw [e0]
      have q0 : W0.cell? ⟨L.l, k * 3, none⟩ = some (.int .i64 0) := hB0.pt (j := 0) hx rfl
      have q1 : W0.cell? ⟨L.l, k * 3 + 1, none⟩ = some (.int .i64 0) := hB0.pt (j := 1) hx rfl
      have q2 : W0.cell? ⟨L.l, k * 3 + 2, none⟩ = some (.int .u64 0) := hB0.pt (j := 2) hx rfl
      have HK := Lib.hid hk
      clear hz hB hB0 hk hp hx hs hn hn2 ht hnlt
      go_enter Try.func47, Try.ntmps47
      go_wp2_with fail
      rw [← hW0]
      refine (hPC.out _ hU0.out).mono ?_
      rintro e w1 ⟨rfl, n, rfl⟩
      clear hW0
      have hN : HB ((W0.drewN n).alloc (.cells #[.int .i64 0, .int .i64 0, .int .u64 0] 49)) W0.heap.size 49 [.int .i64 0, .int .i64 0, .int .u64 0] := HB.new (W0.drewN n) _ [.int .i64 0, .int .i64 0, .int .u64 0]
      have m0 := hN.cell (j := 0) rfl
      have m1 := hN.cell (j := 1) rfl
      have m2 := hN.cell (j := 2) rfl
      have mf0 := hN.free 0
      have mf1 := hN.free 1
      have mf2 := hN.free 2
      have HZ1 := (HZ.out.drewN n).alloc (.cells #[.int .i64 0, .int .i64 0, .int .u64 0] 49)
      have zz0 := HZ1.cell (j := 0) rfl
      have zz1 := HZ1.cell (j := 1) rfl
      have zzf0 := HZ1.free 0
      have zzf1 := HZ1.free 1
      have a1' := (((HB1.out.drewN n).alloc (.cells #[.int .i64 0, .int .i64 0, .int .u64 0] 49))).cell (j := 3) rfl
      have r0' := ((((Upd.refl [] W0).drewN n).alloc (.cells #[.int .i64 0, .int .i64 0, .int .u64 0] 49))).cell r0 (by simp)
      have d3 : ¬ (L.b = W0.heap.size) := by have := HB1.out.lt; omega
      have d4 : ¬ (W0.heap.size = L.b) := by have := HB1.out.lt; omega
      have d5 : ¬ (L.i = W0.heap.size) := by have := HI1.out.lt; omega
      have d6 : ¬ (W0.heap.size = L.i) := by have := HI1.out.lt; omega
      have d1 : ¬ (w.heap.size = W0.heap.size) := by have := HLT.out; omega
      have d2 : ¬ (W0.heap.size = w.heap.size) := by have := HLT.out; omega
      clear hN HZ1 z0 z1 zf0 zf1
      go_wp2
      have hy := ((((((HZ.out.drewN n).alloc (.cells #[.int .i64 0, .int .i64 0, .int .u64 0] 49)).setNe (p := ⟨W0.heap.size, 0, none⟩) d1 (.int .i64 0)).setNe (p := ⟨W0.heap.size, 1, none⟩) d1 (.int .i64 0)).setNe (p := ⟨W0.heap.size, 2, none⟩) d1 (.int .u64 0)).set 0 (.int .i64 0)).set 1 (.int .u64 0)
      have y0 := hy.cell (j := 0) rfl
      have y1 := hy.cell (j := 1) rfl
      refine bodyPost_ret (v := .tuple #[.agg #[.int .i64 0, .int .u64 0], .bool false]) ?_ rfl ⟨rfl, ?_⟩
      · simp [results, Try.f47, go_sem, y0, y1]
      · have hlt := HLT.out
        repeat (first | with_reducible exact hU0.out | with_reducible refine Upd.alloc ?_ _ | with_reducible refine Upd.drewN ?_ _ | (with_reducible refine Upd.setCell ?_ (.inr ?h) _; case h => (dsimp only; omega)))
    · by_cases ht' : t' = t
      · have e0 : b.known t = some v' := by unfold Band.known; rw [if_neg h0, ← hk, HX.out]; simp only; rw [if_pos ht']
        rw [e0]
        subst ht'
        have q0 : W0.cell? ⟨L.l, k * 3, none⟩ = some (.int .i64 t') := hB0.pt (j := 0) hx rfl
        have q1 : W0.cell? ⟨L.l, k * 3 + 1, none⟩ = some (.int .i64 (wh v')) := hB0.pt (j := 1) hx rfl
        have q2 : W0.cell? ⟨L.l, k * 3 + 2, none⟩ = some (.int .u64 (wl v')) := hB0.pt (j := 2) hx rfl
        have HK := Lib.hid hk
        clear hz hB hB0 hk hp hx hs hn hn2 ht hnlt
        go_enter Try.func47, Try.ntmps47
        go_wp2_with fail
        rw [← hW0]
        refine (hPC.out _ hU0.out).mono ?_
        rintro e w1 ⟨rfl, n, rfl⟩
        clear hW0
        have hN : HB ((W0.drewN n).alloc (.cells #[.int .i64 0, .int .i64 0, .int .u64 0] 49)) W0.heap.size 49 [.int .i64 0, .int .i64 0, .int .u64 0] := HB.new (W0.drewN n) _ [.int .i64 0, .int .i64 0, .int .u64 0]
        have m0 := hN.cell (j := 0) rfl
        have m1 := hN.cell (j := 1) rfl
        have m2 := hN.cell (j := 2) rfl
        have mf0 := hN.free 0
        have mf1 := hN.free 1
        have mf2 := hN.free 2
        have HZ1 := (HZ.out.drewN n).alloc (.cells #[.int .i64 0, .int .i64 0, .int .u64 0] 49)
        have zz0 := HZ1.cell (j := 0) rfl
        have zz1 := HZ1.cell (j := 1) rfl
        have zzf0 := HZ1.free 0
        have zzf1 := HZ1.free 1
        have a1' := (((HB1.out.drewN n).alloc (.cells #[.int .i64 0, .int .i64 0, .int .u64 0] 49))).cell (j := 3) rfl
        have r0' := ((((Upd.refl [] W0).drewN n).alloc (.cells #[.int .i64 0, .int .i64 0, .int .u64 0] 49))).cell r0 (by simp)
        have d3 : ¬ (L.b = W0.heap.size) := by have := HB1.out.lt; omega
        have d4 : ¬ (W0.heap.size = L.b) := by have := HB1.out.lt; omega
        have d5 : ¬ (L.i = W0.heap.size) := by have := HI1.out.lt; omega
        have d6 : ¬ (W0.heap.size = L.i) := by have := HI1.out.lt; omega
        have d1 : ¬ (w.heap.size = W0.heap.size) := by have := HLT.out; omega
        have d2 : ¬ (W0.heap.size = w.heap.size) := by have := HLT.out; omega
        clear hN HZ1 z0 z1 zf0 zf1
        go_wp2
        have hy := ((((((HZ.out.drewN n).alloc (.cells #[.int .i64 0, .int .i64 0, .int .u64 0] 49)).setNe (p := ⟨W0.heap.size, 0, none⟩) d1 (.int .i64 t')).setNe (p := ⟨W0.heap.size, 1, none⟩) d1 (.int .i64 (wh v'))).setNe (p := ⟨W0.heap.size, 2, none⟩) d1 (.int .u64 (wl v'))).set 0 (.int .i64 (wh v'))).set 1 (.int .u64 (wl v'))
        have y0 := hy.cell (j := 0) rfl
        have y1 := hy.cell (j := 1) rfl
        refine bodyPost_ret (v := .tuple #[.agg #[.int .i64 (wh v'), .int .u64 (wl v')], .bool true]) ?_ rfl ⟨rfl, ?_⟩
        · simp [results, Try.f47, go_sem, y0, y1]
        · have hlt := HLT.out
          repeat (first | with_reducible exact hU0.out | with_reducible refine Upd.alloc ?_ _ | with_reducible refine Upd.drewN ?_ _ | (with_reducible refine Upd.setCell ?_ (.inr ?h) _; case h => (dsimp only; omega)))
      · have e0 : b.known t = none := by unfold Band.known; rw [if_neg h0, ← hk, HX.out]; simp only; rw [if_neg ht']
        rw [e0]
        have et : (t' != t) = true := by simpa using ht'
        have q0 : W0.cell? ⟨L.l, k * 3, none⟩ = some (.int .i64 t') := hB0.pt (j := 0) hx rfl
        have q1 : W0.cell? ⟨L.l, k * 3 + 1, none⟩ = some (.int .i64 (wh v')) := hB0.pt (j := 1) hx rfl
        have q2 : W0.cell? ⟨L.l, k * 3 + 2, none⟩ = some (.int .u64 (wl v')) := hB0.pt (j := 2) hx rfl
        have HK := Lib.hid hk
        clear hz hB hB0 hk hp hx hs hn hn2 ht hnlt
        go_enter Try.func47, Try.ntmps47
        go_wp2_with fail
        rw [← hW0]
        refine (hPC.out _ hU0.out).mono ?_
        rintro e w1 ⟨rfl, n, rfl⟩
        clear hW0
        have hN : HB ((W0.drewN n).alloc (.cells #[.int .i64 0, .int .i64 0, .int .u64 0] 49)) W0.heap.size 49 [.int .i64 0, .int .i64 0, .int .u64 0] := HB.new (W0.drewN n) _ [.int .i64 0, .int .i64 0, .int .u64 0]
        have m0 := hN.cell (j := 0) rfl
        have m1 := hN.cell (j := 1) rfl
        have m2 := hN.cell (j := 2) rfl
        have mf0 := hN.free 0
        have mf1 := hN.free 1
        have mf2 := hN.free 2
        have HZ1 := (HZ.out.drewN n).alloc (.cells #[.int .i64 0, .int .i64 0, .int .u64 0] 49)
        have zz0 := HZ1.cell (j := 0) rfl
        have zz1 := HZ1.cell (j := 1) rfl
        have zzf0 := HZ1.free 0
        have zzf1 := HZ1.free 1
        have a1' := (((HB1.out.drewN n).alloc (.cells #[.int .i64 0, .int .i64 0, .int .u64 0] 49))).cell (j := 3) rfl
        have r0' := ((((Upd.refl [] W0).drewN n).alloc (.cells #[.int .i64 0, .int .i64 0, .int .u64 0] 49))).cell r0 (by simp)
        have d3 : ¬ (L.b = W0.heap.size) := by have := HB1.out.lt; omega
        have d4 : ¬ (W0.heap.size = L.b) := by have := HB1.out.lt; omega
        have d5 : ¬ (L.i = W0.heap.size) := by have := HI1.out.lt; omega
        have d6 : ¬ (W0.heap.size = L.i) := by have := HI1.out.lt; omega
        have d1 : ¬ (w.heap.size = W0.heap.size) := by have := HLT.out; omega
        have d2 : ¬ (W0.heap.size = w.heap.size) := by have := HLT.out; omega
        clear hN HZ1 z0 z1 zf0 zf1
        go_wp2
        have hy := ((((((HZ.out.drewN n).alloc (.cells #[.int .i64 0, .int .i64 0, .int .u64 0] 49)).setNe (p := ⟨W0.heap.size, 0, none⟩) d1 (.int .i64 t')).setNe (p := ⟨W0.heap.size, 1, none⟩) d1 (.int .i64 (wh v'))).setNe (p := ⟨W0.heap.size, 2, none⟩) d1 (.int .u64 (wl v'))).set 0 (.int .i64 0)).set 1 (.int .u64 0)
        have y0 := hy.cell (j := 0) rfl
        have y1 := hy.cell (j := 1) rfl
        refine bodyPost_ret (v := .tuple #[.agg #[.int .i64 0, .int .u64 0], .bool false]) ?_ rfl ⟨rfl, ?_⟩
        · simp [results, Try.f47, go_sem, y0, y1]
        · have hlt := HLT.out
          repeat (first | with_reducible exact hU0.out | with_reducible refine Upd.alloc ?_ _ | with_reducible refine Upd.drewN ?_ _ | (with_reducible refine Upd.setCell ?_ (.inr ?h) _; case h => (dsimp only; omega)))
end Go.Proofs.Ytdjpcinibgbglaa
