/- (*File).reaches. -/
import Derived.Test.YtdjpcinibgbglaaFile
import Derived.Test.YtdjpcinibgbglaaFn
set_option linter.unusedVariables false
set_option linter.unusedSimpArgs false
namespace Go.Proofs.Ytdjpcinibgbglaa
open Go.RowKit Go.Sort
set_option maxHeartbeats 1000000 in
theorem clos_calls (L : Loc) (b : Band) (q : Nat) (d : Int) (w : World) (hB : BandAt w L b) (hs : okSpc b.spc = true) (hq : w.cell? ⟨q, 0, none⟩ = some (.int .i64 d)) :
    Calls Try.prog 74 #[pB L.b, .pointer (some ⟨q, 0, none⟩)] w fun e w' => e = .returned (.bool (decide (d ≤ reachS b.spc))) ∧ Upd [] w w' := by
  have x0 := fun D os => rg_cell (hB.hb.cell (j := 0) rfl) D os
  have x1 := fun D os => rg_cell (hB.hb.cell (j := 1) rfl) D os
  have x2 := fun D os => rg_cell hq D os
  have hI : I64 (b.step * (b.n : Int)) := by have := reach_le hs; unfold reachS Band.spc at this; unfold I64; simp only at this; omega
  unfold reachS Band.spc
  dsimp only
  clear hB hq hs
  go_enter Try.func74, Try.ntmps74
  go_wp2_with fail
  refine wp_region_quiet_below (by kernel_rfl) (by kernel_rfl) ?_
  repeat (go_big_quiet_step ((go_at_call 43; exact rg_of (reach_calls _ _ (by assumption) _))))
  refine wpQuiet_nil ?_
  rintro _ ⟨⟨dq, osq⟩, rfl⟩
  go_wp2
  go_ret
  exact ⟨rfl, rg_upd _ _ _⟩
set_option maxHeartbeats 1000000 in
theorem index_calls (F : Nat → Prop) (v : Value) (Ls : List Loc) (bs : List Band) (q : Nat) (d : Int) (w : World) (hr : RowK w F (fun L => [pB L.b]) 1 v Ls) (hl : Ls.length = bs.length)
    (hB : ∀ (k : Nat) (L : Loc) (b : Band), Ls[k]? = some L → bs[k]? = some b → BandAt w L b) (hs : ∀ b ∈ bs, okSpc b.spc = true) (hq : w.cell? ⟨q, 0, none⟩ = some (.int .i64 d)) (k : Nat) (hk : k < bs.length) (hk1 : ∀ b, bs[k]? = some b → d ≤ reachS b.spc) (hk2 : ∀ (j : Nat) (b : Band), j < k → bs[j]? = some b → ¬ d ≤ reachS b.spc) :
    Calls Try.prog 73 #[v, .func (.func 74) #[] #[.pointer (some ⟨q, 0, none⟩)]] w fun e w' => e = .returned (.int .i64 k) ∧ Upd [] w w' := by
  obtain ⟨A, c, rfl, hc1, hc2, hc3⟩ := hr.shape
  have HK1 := Lib.hid hk1
  have HK2 := Lib.hid hk2
  have HR := Lib.hid hr
  have HBB := Lib.hid hB
  have HS := Lib.hid hs
  have HQ := Lib.hid hq
  have HL := Lib.hid hl
  have hkI : (k : Int) < (Ls.length : Int) := by omega
  have hlm : Ls.length ≤ 9223372036854775807 := Nat.le_trans hc1 (Nat.le_trans hc2 (by unfold maxLen; decide))
  clear hk1 hk2 hr hB hs hq hl hc2 hc3
  go_enter Try.func73, Try.ntmps73
  go_wp2
  go_loopw [8] (fun i wr => ∃ j : Nat, j ≤ k ∧ i = .int .i64 (j : Int) ∧ Upd [] w wr) (fun i _ => k + 1 - (intOf i).toNat)
  case atStart => exact ⟨0, Nat.zero_le _, rfl, Upd.refl _ _⟩
  case round =>
    obtain ⟨j, hj, rfl, hU⟩ := hrel
    have HU := Lib.hid hU
    have hjI : (j : Int) < (Ls.length : Int) := by omega
    obtain ⟨L, hx⟩ : ∃ L, Ls[j]? = some L := ⟨Ls[j], List.getElem?_eq_getElem (by omega)⟩
    obtain ⟨b, hb⟩ : ∃ b, bs[j]? = some b := ⟨bs[j], List.getElem?_eq_getElem (by omega)⟩
    obtain ⟨g, o, rfl, _, hcell⟩ := HR.out.at_ hx
    have c0 : wr.cell? ⟨g, o + j, none⟩ = some (pB L.b) := hU.cell (by simpa using hcell 0 _ rfl) (by simp)
    have HC := Lib.hid (fun W (hW : Upd [] w W) => clos_calls L b q d W ((HBB.out j L b hx hb).upd0 hW) (HS.out b (List.mem_of_getElem? hb)) (hW.cell HQ.out (by simp)))
    have HX := Lib.hid hx
    have HBX := Lib.hid hb
    clear hx hb hcell hU
    by_cases hjk : j = k
    · have ht : decide (d ≤ reachS b.spc) = true := decide_eq_true (HK1.out b (hjk ▸ HBX.out))
      rw [ht] at HC
      clear ht
      subst hjk
      go_wp2_with fail
      refine (HC.out _ HU.out).mono ?_
      rintro e w1 ⟨rfl, hU1⟩
      go_wp2
      go_ret
      exact ⟨rfl, HU.out.then hU1⟩
    · have ht : decide (d ≤ reachS b.spc) = false := decide_eq_false (by have := HK2.out j b (by omega) HBX.out; omega)
      rw [ht] at HC
      clear ht
      go_wp2_with fail
      refine (HC.out _ HU.out).mono ?_
      rintro e w1 ⟨rfl, hU1⟩
      go_wp2
      exact ⟨⟨j + 1, by omega, rfl, HU.out.then hU1⟩, by show k + 1 - ((j : Int) + 1).toNat < k + 1 - (j : Int).toNat; omega⟩
set_option maxHeartbeats 1000000 in
theorem reaches_calls (base fb : Nat) (f : Fl) (v : Value) (Ls : List Loc) (d : Int) (w : World) (hf : FileAt w base fb f v Ls) (hok : f.ok) (k : Nat) (hk : k < f.bands.length) (hk1 : ∀ b, f.bands[k]? = some b → d ≤ reachS b.spc) (hk2 : ∀ (j : Nat) (b : Band), j < k → f.bands[j]? = some b → ¬ d ≤ reachS b.spc) :
    Calls Try.prog 44 #[.pointer (some ⟨fb, 0, none⟩), .int .i64 d] w fun e w' => e = .returned (.int .i64 k) ∧ Upd [] w w' := by
  have hU0 := (Upd.refl [] w).alloc (.cells #[.int .i64 d] 2)
  have hF0 := hf.upd0 hU0
  have hq := (HB.new w 2 [.int .i64 d]).cell (j := 0) rfl
  have HI := Lib.hid (index_calls _ v Ls f.bands w.heap.size d _ hF0.row hf.len hF0.band (fun b hb => (hok.bands b hb).spc) hq k hk hk1 hk2)
  have y0 := hF0.hf.cell (j := 2) rfl
  clear hf hF0 hq hk1 hk2
  go_enter Try.func44, Try.ntmps44
  go_wp2_with fail
  refine HI.out.mono ?_
  rintro e w1 ⟨rfl, hU1⟩
  go_wp2
  go_ret
  exact ⟨rfl, hU0.then hU1⟩
set_option maxHeartbeats 1000000 in
theorem made_calls (base fb : Nat) (f : Fl) (v : Value) (Ls : List Loc) (w : World) (hf : FileAt w base fb f v Ls) (hne : f.bands ≠ []) :
    Calls Try.prog 35 #[.pointer (some ⟨fb, 0, none⟩)] w fun e w' => e = .returned (.bool true) ∧ Upd [] w w' := by
  obtain ⟨A, c, rfl, hc1, hc2, hc3⟩ := hf.row.shape
  have y0 := hf.hf.cell (j := 2) rfl
  have hpos : 0 < Ls.length := by rw [hf.len]; exact List.length_pos_iff.2 hne
  have hd : decide (0 < (Ls.length : Int)) = true := decide_eq_true (by omega)
  clear hf hc3 hc2 hc1
  go_enter Try.func35, Try.ntmps35
  go_wp2
  go_ret
  exact ⟨rfl, Upd.refl _ _⟩
theorem made_nil (w : World) : Calls Try.prog 35 #[.pointer none] w fun e w' => e = .returned (.bool false) ∧ Upd [] w w' := by
  go_enter Try.func35, Try.ntmps35
  go_wp2
  go_ret
  exact ⟨rfl, Upd.refl _ _⟩
end Go.Proofs.Ytdjpcinibgbglaa
