/- AggNils: nil ones, and one that New did not make. -/
import Derived.Test.YthbjpoiolmlpmaaGreatDoorAwake
import Derived.Shelf.Vars
import Derived.Test.YthbjpoiolmlpmaaGreatDoorLift
set_option linter.unusedVariables false
set_option linter.unusedSimpArgs false
namespace Go.Proofs.YthbjpoiolmlpmaaGreatDoor
open Go.RowKit
/-- Nobody made it: nil, or a block of nothing. -/
def NoAg (w : World) (v : Value) : Prop := v = .pointer none ∨ ∃ b, v = .pointer (some ⟨b, 0, none⟩) ∧ HB w b TAgg [.map none, .map none, .int .i64 0]
theorem NoAg.upd0 {w w' : World} {v : Value} (h : NoAg w v) (hU : Upd [] w w') : NoAg w' v := by
  rcases h with h | ⟨b, h1, h2⟩
  · exact .inl h
  · exact .inr ⟨b, h1, h2.upd hU (by simp)⟩
theorem map_ne0 (W : World) : (binOp .neq 73 (.map none) (.map none)).run Tryz.prog W = .ok (.bool false) W := by kernel_rfl
theorem madeNo_calls {w : World} {v : Value} (h : NoAg w v) : Calls Tryz.prog 35 #[v] w fun e w' => e = .returned (.bool false) ∧ w' = w := by
  rcases h with rfl | ⟨b, rfl, h⟩
  · go_enter Tryz.func35, Tryz.ntmps35
    go_wp2
    go_ret
    exact ⟨rfl, rfl⟩
  · have c0 := h.cell (j := 0) rfl
    have hm := map_ne0
    go_enter Tryz.func35, Tryz.ntmps35
    go_wp2
    go_ret
    exact ⟨rfl, rfl⟩
theorem applyNo_calls {w : World} {v : Value} (h : NoAg w v) (id : Int) (e : Ev) : Calls Tryz.prog 16 #[v, .int .i64 id, .agg (evC e).toArray] w fun x w' => x = .returned (.int .i64 4) ∧ Upd [] w w' := by
  have HM := Lib.hid (madeNo_calls (h.upd0 ((Upd.refl [] w).alloc (.cells (evC e).toArray TEv))))
  unfold evC at HM ⊢
  go_enter Tryz.func16, Tryz.ntmps16
  go_wp2_with fail
  refine HM.out.mono ?_
  rintro x w' ⟨rfl, rfl⟩
  go_wp2
  go_ret
  exact ⟨rfl, by repeat (first | exact Upd.refl _ _ | assumption | apply Upd.drewN | apply Upd.drew | apply Upd.alloc)⟩
theorem closeNo_calls {w : World} {v : Value} (h : NoAg w v) (id : Int) : Calls Tryz.prog 20 #[v, .int .i64 id] w fun x w' => x = .returned (.slice none 0 0) ∧ Upd [] w w' := by
  have HM := Lib.hid (madeNo_calls h)
  go_enter Tryz.func20, Tryz.ntmps20
  go_wp2_with fail
  refine HM.out.mono ?_
  rintro x w' ⟨rfl, rfl⟩
  go_wp2
  go_ret
  exact ⟨rfl, by repeat (first | exact Upd.refl _ _ | assumption | apply Upd.drewN | apply Upd.drew | apply Upd.alloc)⟩
theorem openNo_calls {w : World} {v : Value} (h : NoAg w v) : Calls Tryz.prog 22 #[v] w fun x w' => x = .returned (.slice none 0 0) ∧ Upd [] w w' := by
  have HM := Lib.hid (madeNo_calls h)
  go_enter Tryz.func22, Tryz.ntmps22
  go_wp2_with fail
  refine HM.out.mono ?_
  rintro x w' ⟨rfl, rfl⟩
  go_wp2
  go_ret
  exact ⟨rfl, by repeat (first | exact Upd.refl _ _ | assumption | apply Upd.drewN | apply Upd.drew | apply Upd.alloc)⟩
theorem gaugeNo_calls {w : World} {v : Value} (h : NoAg w v) (n : ByteArray) : Calls Tryz.prog 28 #[v, .string n] w fun x w' => x = .returned (.tuple #[wide 0, .bool false]) ∧ Upd [] w w' := by
  have HM := Lib.hid (madeNo_calls (h.upd0 ((Upd.refl [] w).alloc (.cells #[.int .i64 0, .int .u64 0] 39))))
  have hT := HB.new w 39 [.int .i64 0, .int .u64 0]
  go_enter Tryz.func28, Tryz.ntmps28
  go_wp2_with fail
  refine HM.out.mono ?_
  rintro x w' ⟨rfl, rfl⟩
  have t0 := hT.cell (j := 0) rfl
  have t1 := hT.cell (j := 1) rfl
  have f0 := hT.free 0
  have f1 := hT.free 1
  go_wp2
  refine bodyPost_ret (v := .tuple #[wide 0, .bool false]) ?_ rfl ⟨rfl, ?_⟩
  · simp [results, Tryz.f28, go_sem, t0, t1, wide, wh0, wl0]
  · repeat (first | with_reducible exact Upd.refl _ _ | with_reducible refine Upd.drew ?_ | with_reducible refine Upd.alloc ?_ _ | (with_reducible refine Upd.setCell ?_ (.inr ?h) _; case h => (dsimp only; omega)))
set_option maxHeartbeats 4000000 in
set_option maxRecDepth 20000 in
theorem nils_calls (id : Int) (e : Ev) (w : World) (hM : MaxL w) : Calls Tryz.prog 8 #[.int .i64 id, .agg (evC e).toArray] w fun x w' => x = .returned (.bool true) ∧ Upd [] w w' := by
  have hsz : 0 < w.heap.size := by
    obtain ⟨m, hm⟩ := hM
    exact World.block_lt_of_cell? w _ hm
  have HE := Lib.hid (HB.new w TEv (evC e))
  have hU0 := (Upd.refl [] w).alloc (.cells (evC e).toArray TEv)
  have HU0 := Lib.hid hU0
  have hB1 := HB.new (w.alloc (.cells (evC e).toArray TEv)) TAgg [.map none, .map none, .int .i64 0]
  have hU1 := hU0.alloc (.cells #[.map none, .map none, .int .i64 0] TAgg)
  have hB2 := HB.new ((w.alloc (.cells (evC e).toArray TEv)).alloc (.cells #[.map none, .map none, .int .i64 0] TAgg)) 35 [.pointer none, .pointer (some ⟨w.heap.size + 1, 0, none⟩)]
  have hU2 := hU1.alloc (.cells #[.pointer none, .pointer (some ⟨w.heap.size + 1, 0, none⟩)] 35)
  rw [show ((w.alloc (.cells (evC e).toArray TEv)).alloc (.cells #[.map none, .map none, .int .i64 0] TAgg)).heap.size = w.heap.size + 1 + 1 by simp] at hB2
  rw [show (w.alloc (.cells (evC e).toArray TEv)).heap.size = w.heap.size + 1 by simp] at hB1
  obtain ⟨W0, hW0⟩ : ∃ W0, W0 = ((w.alloc (.cells (evC e).toArray TEv)).alloc (.cells #[.map none, .map none, .int .i64 0] TAgg)).alloc (.cells #[.pointer none, .pointer (some ⟨w.heap.size + 1, 0, none⟩)] 35) := ⟨_, rfl⟩
  have hB1 := hB1.alloc (.cells #[.pointer none, .pointer (some ⟨w.heap.size + 1, 0, none⟩)] 35)
  have hE2 := (HE.out.alloc (.cells #[.map none, .map none, .int .i64 0] TAgg)).alloc (.cells #[.pointer none, .pointer (some ⟨w.heap.size + 1, 0, none⟩)] 35)
  rw [← hW0] at hB1 hE2 hU2
  rw [show (((w.alloc (.cells (evC e).toArray TEv)).alloc (.cells #[.map none, .map none, .int .i64 0] TAgg)).alloc (.cells [Value.pointer none, .pointer (some ⟨w.heap.size + 1, 0, none⟩)].toArray 35)) = W0 from hW0.symm] at hB2
  have HB1 := Lib.hid hB1
  have HB2 := Lib.hid hB2
  have HE2 := Lib.hid hE2
  have HU2 := Lib.hid hU2
  have HW0 := Lib.hid hW0
  clear hB1 hB2 hE2 hU2 hU1 hU0
  have HNO := Lib.hid (show ∀ k, k < 2 → ∃ v, ([.pointer none, .pointer (some ⟨w.heap.size + 1, 0, none⟩)] : List Value)[k]? = some v ∧ NoAg W0 v from fun k hk => by
    match k, hk with
    | 0, _ => exact ⟨_, rfl, .inl rfl⟩
    | 1, _ => exact ⟨_, rfl, .inr ⟨_, rfl, HB1.out⟩⟩)
  unfold evC at hW0
  unfold evC
  go_enter Tryz.func8, Tryz.ntmps8
  go_wp2_with fail
  rw [← hW0]
  clear hW0
  go_loopw [15] (fun i wr => ∃ k : Nat, k ≤ 2 ∧ i = .int .i64 k ∧ Upd [] W0 wr) (fun i _ => 2 - (intOf i).toNat)
  case atStart => exact ⟨0, by omega, rfl, Upd.refl _ _⟩
  case round =>
    obtain ⟨k, hk, rfl, hU⟩ := hrel
    have HU := Lib.hid hU
    clear hU
    by_cases hlt : k < 2
    · obtain ⟨v, hv, hn⟩ := HNO.out k hlt
      have HN := Lib.hid hn
      have cv := HU.out.cell (HB2.out.cell hv) (by simp)
      have eb := HE2.out
      have e0 := HU.out.cell (HE2.out.cell (j := 0) rfl) (by simp)
      have HG := Lib.hid (gaugeNo_calls (HN.out.upd0 HU.out) e.name)
      clear hv hn eb
      go_wp2_with fail
      refine HG.out.mono ?_
      rintro x w2 ⟨rfl, hU2⟩
      have hW := HU.out.then hU2
      have hT := HB.new w2 39 [.int .i64 0, .int .u64 0]
      have t0 := hT.cell (j := 0) rfl
      have t1 := hT.cell (j := 1) rfl
      have f0 := hT.free 0
      have f1 := hT.free 1
      have hsz2 := hW.size
      have hW3 := hW.alloc (.cells #[.int .i64 0, .int .u64 0] 39)
      have e0 := hW3.cell (HE2.out.cell (j := 0) rfl) (by simp)
      have e1 := hW3.cell (HE2.out.cell (j := 1) rfl) (by simp)
      have e2 := hW3.cell (HE2.out.cell (j := 2) rfl) (by simp)
      have e3 := hW3.cell (HE2.out.cell (j := 3) rfl) (by simp)
      have e4 := hW3.cell (HE2.out.cell (j := 4) rfl) (by simp)
      have e5 := hW3.cell (HE2.out.cell (j := 5) rfl) (by simp)
      have e6 := hW3.cell (HE2.out.cell (j := 6) rfl) (by simp)
      have e7 := hW3.cell (HE2.out.cell (j := 7) rfl) (by simp)
      have HW3 := Lib.hid hW3
      have HAP := Lib.hid (applyNo_calls (HN.out.upd0 hW3) id e)
      rw [show wide 0 = .agg #[.int .i64 0, .int .u64 0] by unfold wide; rw [wh0, wl0]]
      clear hT hU2 hW hW3 hsz2
      go_wp2_with fail
      refine HAP.out.mono ?_
      rintro x w4 ⟨rfl, hU4⟩
      have HU4 := Lib.hid (HW3.out.then hU4)
      have HCL := Lib.hid (closeNo_calls (HN.out.upd0 HU4.out) id)
      clear hU4 t0 t1 f0 f1 e0 e1 e2 e3 e4 e5 e6 e7
      go_wp2_with fail
      refine HCL.out.mono ?_
      rintro x w5 ⟨rfl, hU5⟩
      have HU5 := Lib.hid (HU4.out.then hU5)
      have HOP := Lib.hid (openNo_calls (HN.out.upd0 HU5.out))
      clear hU5
      go_wp2_with fail
      refine HOP.out.mono ?_
      rintro x w6 ⟨rfl, hU6⟩
      have HU6 := Lib.hid (HU5.out.then hU6)
      clear hU6
      go_wp2_with fail
      go_roundw
      case rel => exact ⟨k + 1, by omega, by go_num, HU6.out⟩
      case measure => simp [intOf]; omega
    · have HF := Lib.hid (HU2.out.then HU.out)
      have HAW := Lib.hid (awake_calls wr (hM.upd0 HF.out) (by have := HF.out.size; omega))
      go_wp2_with fail
      refine HAW.out.mono ?_
      rintro x w2 ⟨rfl, hU3⟩
      have HF2 := Lib.hid (HF.out.then hU3)
      clear hU3
      go_wp2
      go_ret
      exact ⟨rfl, HF2.out⟩
theorem maxL_of {W : World} (h : W.ShapedOpen Tryz.prog) : MaxL W :=
  cell_of_shapedOpen_int (P := Tryz.prog) (g := 0) (t := 3) (zero := #[.int .i64 0]) h (of_decide_eq_true (by kernel_rfl)) (by kernel_rfl) rfl (by kernel_rfl) (by kernel_rfl) (by kernel_rfl)
theorem rd_ev {w : World} {F : Nat → Prop} {cs : List Value} {x : GT.den gEvent} (h : Rd w F gEvent cs x) :
    ∃ e : Ev, cs = evC e ∧ e = ⟨x.1, x.2.1, x.2.2.1, x.2.2.2.1, x.2.2.2.2.1, x.2.2.2.2.2.1, x.2.2.2.2.2.2.1, x.2.2.2.2.2.2.2.1⟩ ∧ e.name.size ≤ maxLen ∧ e.member.size ≤ maxLen ∧ e.name.size ≤ gEvent.bulk x := by
  obtain ⟨n, k, v, d, m, r, t, ti, u⟩ := x
  obtain ⟨c1, r1, rfl, ⟨rfl, w1⟩, c2, r2, rfl, ⟨rfl, w2⟩, c3, r3, rfl, ⟨rfl, w3⟩, c4, r4, rfl, w4, c5, r5, rfl, ⟨rfl, w5⟩, c6, r6, rfl, ⟨rfl, w6⟩, c7, r7, rfl, w7, c8, r8, rfl, ⟨rfl, w8⟩, rfl⟩ := h
  obtain rfl := w4
  obtain rfl := w7
  exact ⟨⟨n, k, v, d, m, r, t, ti⟩, rfl, rfl, w1, w5, by simp only [GT.bulk]; omega⟩
theorem aggNils_calls (c0 : List Value) (x0 : GT.den gI) (c1 : List Value) (x1 : GT.den gEvent) (W : World) (h0 : Rd W (· < W.heap.size) gI c0 x0) (h1 : Rd W (· < W.heap.size) gEvent c1 x1) (hk : gI.bulk x0 + gEvent.bulk x1 ≤ 1048576) (hM : MaxL W) :
    Calls Tryz.prog 8 #[GT.val gI c0, GT.val gEvent c1] W fun e w' => e = .returned (.bool true) ∧ Upd [] W w' := by
  obtain ⟨rfl, _⟩ := h0
  obtain ⟨e, rfl, _⟩ := rd_ev h1
  exact nils_calls x0 e W hM
end Go.Proofs.YthbjpoiolmlpmaaGreatDoor
