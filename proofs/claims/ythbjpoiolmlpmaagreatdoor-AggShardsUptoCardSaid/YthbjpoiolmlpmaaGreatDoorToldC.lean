/- The laws' told: events applied one by one, all windows closed. -/
import Derived.Test.YthbjpoiolmlpmaaGreatDoorAwake
import Derived.Test.YthbjpoiolmlpmaaGreatDoorLift
import Derived.Test.YthbjpoiolmlpmaaGreatDoorAgPl
import Derived.Shelf.Vars
set_option linter.unusedVariables false
set_option linter.unusedSimpArgs false
namespace Go.Proofs.YthbjpoiolmlpmaaGreatDoor
open Go.RowKit
theorem maxL_of {W : World} (h : W.ShapedOpen Tryz.prog) : MaxL W :=
  cell_of_shapedOpen_int (P := Tryz.prog) (g := 0) (t := 3) (zero := #[.int .i64 0]) h (of_decide_eq_true (by kernel_rfl)) (by kernel_rfl) rfl (by kernel_rfl) (by kernel_rfl) (by kernel_rfl)
theorem MaxL.pos {w : World} (h : MaxL w) : 0 < w.heap.size := by
  obtain ⟨m, hm⟩ := h
  exact World.block_lt_of_cell? w _ hm
def rowC (p : KE) : List Value := .int .i64 p.1 :: evC p.2
set_option maxHeartbeats 4000000 in
set_option maxRecDepth 20000 in
theorem told_calls (rows : List KE) (v : Value) (F : Nat → Prop) (w : World) (hR : RowK w F rowC 9 v rows) (hF : ∀ b, F b → b < w.heap.size) (hok : okRows rows) (hM : MaxL w) :
    Calls Tryz.prog 12 #[v] w fun e w' => ∃ va cw A', e = .returned (.tuple #[va, .bool true]) ∧ Closes (runE rows) 9223372036854775807 (cw.map WCL.pl) A' ∧ WinsAt w' w.heap.size w.heap.size va cw ∧ Upd [] w w' := by
  have HR := Lib.hid hR
  have HOK := Lib.hid hok
  obtain ⟨A, c, rfl, hlc, hcm, _⟩ := hR.shape
  have hm : rows.length ≤ 9223372036854775807 := by unfold maxLen at hcm; omega
  have HF := Lib.hid hF
  clear hR hok hlc hcm hF
  go_enter Tryz.func12, Tryz.ntmps12
  go_wp2_with fail
  refine (shNew_calls w).mono ?_
  rintro e w1 ⟨a, O, rfl, hS, hU⟩
  have HS := Lib.hid hS
  have HU := Lib.hid hU
  clear hS hU
  go_wp2_with fail
  go_loopw [5] (fun i wr => ∃ (k : Nat) (O' : Nat → Prop), k ≤ rows.length ∧ i = .int .i64 k ∧ ShAt wr w.heap.size a O' (runE (rows.take k)) k ∧ Upd [] w wr) (fun i _ => rows.length - (intOf i).toNat)
  case atStart => exact ⟨0, O, Nat.zero_le _, rfl, HS.out, HU.out⟩
  case round =>
    obtain ⟨k, O', hk, rfl, hS, hU⟩ := hrel
    have HS := Lib.hid hS
    have HU := Lib.hid hU
    clear hS hU
    by_cases hlt : k < rows.length
    · obtain ⟨p, hp⟩ : ∃ p, rows[k]? = some p := ⟨rows[k], List.getElem?_eq_getElem hlt⟩
      obtain ⟨b, o, rfl, hb, hf⟩ := HR.out.at_ hp
      have hfb := HF.out b hb
      have hp2 := HOK.out.2 p (List.mem_of_getElem? hp)
      have HP := Lib.hid hp
      obtain ⟨id, e⟩ := p
      have x0 := fun z : Wd [] wr => (HU.out.then z.h).cell (hf 0 (.int .i64 id) rfl) (by simp)
      have x1 := fun z : Wd [] wr => (HU.out.then z.h).cell (hf 1 (.string e.name) rfl) (by simp)
      have x2 := fun z : Wd [] wr => (HU.out.then z.h).cell (hf 2 (.int .i64 e.kind) rfl) (by simp)
      have x3 := fun z : Wd [] wr => (HU.out.then z.h).cell (hf 3 (.int .i64 e.value) rfl) (by simp)
      have x4 := fun z : Wd [] wr => (HU.out.then z.h).cell (hf 4 (.bool e.delta) rfl) (by simp)
      have x5 := fun z : Wd [] wr => (HU.out.then z.h).cell (hf 5 (.string e.member) rfl) (by simp)
      have x6 := fun z : Wd [] wr => (HU.out.then z.h).cell (hf 6 (.int .i64 e.rate) rfl) (by simp)
      have x7 := fun z : Wd [] wr => (HU.out.then z.h).cell (hf 7 (.bool e.timed) rfl) (by simp)
      have x8 := fun z : Wd [] wr => (HU.out.then z.h).cell (hf 8 (.int .i64 e.time) rfl) (by simp)
      simp only [Nat.add_zero] at x0
      have HAP := Lib.hid (shApply_calls w.heap.size a k O' (runE (rows.take k)) id e wr.drew (HS.out.upd0 (Upd.refl [] wr).drew) (by have := HOK.out.1; omega) (hM.upd0 HU.out.drew) hp2.1 (Nat.le_trans hp2.2 (by unfold maxLen; decide)) HU.out.size hM.pos)
      clear hf hp hp2 hfb hb
      go_wp2_with fail
      refine mix_start (n := 12) 11 (fun w' => ∃ p : Wd [] wr, w' = p.v) (by kernel_rfl) (by kernel_rfl) ?_
      refine mix_quiet [true, true, true, true, true, true, true, true, true, true, true] 1 rfl (by kernel_rfl) (by kernel_rfl) (by kernel_rfl) (by kernel_rfl) ⟨⟨_, (Upd.refl [] wr).drew⟩, rfl⟩ ?_
      simp only [maskL]
      repeat (go_big_quiet_step (fail))
      refine wpQuiet_nil ?_
      clear x0 x1 x2 x3 x4 x5 x6 x7 x8
      refine mix_tail (by kernel_rfl) (by kernel_rfl) ?_
      simp only [List.drop_succ_cons, List.drop_zero]
      go_wp2_with fail
      refine HAP.out.mono ?_
      rintro x w2 ⟨rfl, O2, hS2, hO2, hU2⟩
      have HS2 := Lib.hid hS2
      have HU2 := Lib.hid (show Upd [] w w2 from by
        obtain ⟨S, k1, k2⟩ := hU2
        have h1 : Upd [] w wr.drew := HU.out.drew
        exact h1.trans k1 (fun _ h => h) (fun i hi => .inr (HS.out.lo i (k2 i hi)).1))
      clear hS2 hU2 hO2
      go_wp2
      go_roundw
      case rel => exact ⟨k + 1, O2, by omega, by go_num, by rw [runE_take HP.out]; exact HS2.out, HU2.out⟩
      case measure => simp [intOf]; omega
    · obtain rfl : k = rows.length := by omega
      rw [List.take_length] at HS
      have HCL := Lib.hid (shClose_calls w.heap.size a rows.length O' (runE rows) 9223372036854775807 wr HS.out (by have := HOK.out.1; omega) HU.out.size)
      go_wp2_with fail
      refine HCL.out.mono ?_
      rintro x w2 ⟨va, cw, A', rfl, hC, hW, O2, hS2, hO2, hN2, hU2⟩
      have HC := Lib.hid hC
      have HW := Lib.hid hW
      have HU2 := Lib.hid (show Upd [] w w2 from by
        obtain ⟨S, k1, k2⟩ := hU2
        exact HU.out.trans k1 (fun _ h => h) (fun i hi => .inr (HS.out.lo i (k2 i hi)).1))
      clear hC hW hS2 hU2 hO2 hN2
      go_wp2
      have h1 := HW.out
      refine bodyPost_ret (v := .tuple #[va, .bool true]) (by simp [results, Tryz.f12, go_sem]) rfl ?_
      exact ⟨va, cw, A', rfl, HC.out, ⟨own_mono h1.row HU.out.size, fun c hc => ⟨own_mono (h1.wins c hc).1 HU.out.size, (h1.wins c hc).2⟩, h1.nd⟩, HU2.out⟩
end Go.Proofs.YthbjpoiolmlpmaaGreatDoor
