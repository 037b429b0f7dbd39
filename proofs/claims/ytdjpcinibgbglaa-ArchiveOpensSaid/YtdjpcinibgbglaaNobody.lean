/- The law ArchiveNobody: files that nobody made. -/
import Derived.Test.YtdjpcinibgbglaaFileL
import Derived.Test.YtdjpcinibgbglaaRd
set_option linter.unusedVariables false
set_option linter.unusedSimpArgs false
namespace Go.Proofs.Ytdjpcinibgbglaa
open Go.RowKit Go.Sort
theorem madeE (fb : Nat) (w : World) (h : HB w fb 77 [.int .i64 0, .int .i64 0, .slice none 0 0, .nilFunc]) : Calls Try.prog 35 #[.pointer (some ⟨fb, 0, none⟩)] w fun e w' => e = .returned (.bool false) ∧ Upd [] w w' := by
  have y0 := h.cell (j := 2) rfl
  clear h
  go_enter Try.func35, Try.ntmps35
  go_wp2
  go_ret
  exact ⟨rfl, Upd.refl _ _⟩
/-- p is a file that nobody made. -/
def NB (p : Option Addr) (w : World) : Prop := ∀ W, Upd [] w W → Calls Try.prog 35 #[.pointer p] W fun e w' => e = .returned (.bool false) ∧ Upd [] W w'
theorem NB.upd {p : Option Addr} {w w' : World} (h : NB p w) (hU : Upd [] w w') : NB p w' := fun W hW => h W (hU.then hW)
set_option maxRecDepth 20000 in
theorem nbUpd (p : Option Addr) (t a b now : Int) (w : World) (h : NB p w) : Calls Try.prog 20 #[.pointer p, .agg #[.int .i64 t, .int .i64 a, .int .u64 b], .int .i64 now] w fun e w' => e = .returned (.int .i64 4) ∧ Upd [] w w' := by
  have hU0 := (Upd.refl [] w).alloc (.cells #[.int .i64 t, .int .i64 a, .int .u64 b] 49)
  have HN := Lib.hid (h _ hU0)
  clear h
  go_enter Try.func20, Try.ntmps20
  go_wp2_with fail
  refine HN.out.mono ?_
  rintro e w1 ⟨rfl, hU1⟩
  go_wp2
  go_ret
  exact ⟨rfl, hU0.then hU1⟩
theorem nbPoints (p : Option Addr) (i : Int) (w : World) (h : NB p w) : Calls Try.prog 17 #[.pointer p, .int .i64 i] w fun e w' => e = .returned (.slice none 0 0) ∧ Upd [] w w' := by
  have HN := Lib.hid (h w (Upd.refl _ _))
  clear h
  go_enter Try.func17, Try.ntmps17
  go_wp2_with fail
  refine HN.out.mono ?_
  rintro e w1 ⟨rfl, hU1⟩
  go_wp2
  go_ret
  exact ⟨rfl, hU1⟩
theorem nbBytes (p : Option Addr) (w : World) (h : NB p w) : Calls Try.prog 23 #[.pointer p] w fun e w' => e = .returned (.slice none 0 0) ∧ Upd [] w w' := by
  have HN := Lib.hid (h w (Upd.refl _ _))
  clear h
  go_enter Try.func23, Try.ntmps23
  go_wp2_with fail
  refine HN.out.mono ?_
  rintro e w1 ⟨rfl, hU1⟩
  go_wp2
  go_ret
  exact ⟨rfl, hU1⟩
abbrev noSeries : List Value := [.string .empty, .int .i64 0, .int .i64 0, .slice none 0 0]
abbrev noInfo : List Value := [.int .i64 0, .int .i64 0, .slice none 0 0]
theorem nbInfo (p : Option Addr) (w : World) (h : NB p w) : Calls Try.prog 27 #[.pointer p] w fun e w' => e = .returned (.agg noInfo.toArray) ∧ Upd [] w w' := by
  have hU0 := (Upd.refl [] w).alloc (.cells noInfo.toArray 35)
  have hz := HB.new w 35 noInfo
  have HN := Lib.hid (h _ hU0)
  clear h
  go_enter Try.func27, Try.ntmps27
  go_wp2_with fail
  refine HN.out.mono ?_
  rintro e w1 ⟨rfl, hU1⟩
  have hz1 := hz.upd hU1 (by simp)
  have y0 := hz1.cell (j := 0) rfl
  have y1 := hz1.cell (j := 1) rfl
  have y2 := hz1.cell (j := 2) rfl
  have f0 := hz1.free 0
  have f1 := hz1.free 1
  have f2 := hz1.free 2
  have HZ := Lib.hid hz1
  have HU := Lib.hid (hU0.then hU1)
  clear hz hz1 hU0 hU1
  go_wp2
  have hy := ((HZ.out.set 0 (.int .i64 0)).set 1 (.int .i64 0)).set 2 (.slice none 0 0)
  have k0 := hy.cell (j := 0) rfl
  have k1 := hy.cell (j := 1) rfl
  have k2 := hy.cell (j := 2) rfl
  refine bodyPost_ret (v := .agg noInfo.toArray) ?_ rfl ⟨rfl, ?_⟩
  · simp [results, Try.f27, go_sem, k0, k1, k2]
  · exact ((HU.out.setCell (.inr (Nat.le_refl _)) _).setCell (.inr (Nat.le_refl _)) _).setCell (.inr (Nat.le_refl _)) _
theorem nbFetch (p : Option Addr) (a b c : Int) (w : World) (h : NB p w) : Calls Try.prog 24 #[.pointer p, .int .i64 a, .int .i64 b, .int .i64 c] w fun e w' => e = .returned (.tuple #[.agg noSeries.toArray, .int .i64 4]) ∧ Upd [] w w' := by
  have hU0 := (Upd.refl [] w).alloc (.cells noSeries.toArray 66)
  have hz := HB.new w 66 noSeries
  have HN := Lib.hid (h _ hU0)
  clear h
  go_enter Try.func24, Try.ntmps24
  go_wp2_with fail
  refine HN.out.mono ?_
  rintro e w1 ⟨rfl, hU1⟩
  have hz1 := hz.upd hU1 (by simp)
  have y0 := hz1.cell (j := 0) rfl
  have y1 := hz1.cell (j := 1) rfl
  have y2 := hz1.cell (j := 2) rfl
  have y3 := hz1.cell (j := 3) rfl
  have f0 := hz1.free 0
  have f1 := hz1.free 1
  have f2 := hz1.free 2
  have f3 := hz1.free 3
  have HZ := Lib.hid hz1
  have HU := Lib.hid (hU0.then hU1)
  clear hz hz1 hU0 hU1
  go_wp2
  have hy := (((HZ.out.set 0 (.string .empty)).set 1 (.int .i64 0)).set 2 (.int .i64 0)).set 3 (.slice none 0 0)
  have k0 := hy.cell (j := 0) rfl
  have k1 := hy.cell (j := 1) rfl
  have k2 := hy.cell (j := 2) rfl
  have k3 := hy.cell (j := 3) rfl
  have i0 : ∀ X : ByteArray, _ := fun X => (HZ.out.set 0 (.string X)).cell (j := 0) rfl
  have i1 : ∀ X : ByteArray, _ := fun X => ((HZ.out.set 0 (.string X)).set 1 (.int .i64 0)).cell (j := 1) rfl
  have i2 : ∀ X : ByteArray, _ := fun X => (((HZ.out.set 0 (.string X)).set 1 (.int .i64 0)).set 2 (.int .i64 0)).cell (j := 2) rfl
  have i3 : ∀ X : ByteArray, _ := fun X => ((((HZ.out.set 0 (.string X)).set 1 (.int .i64 0)).set 2 (.int .i64 0)).set 3 (.slice none 0 0)).cell (j := 3) rfl
  refine bodyPost_ret (v := .tuple #[.agg noSeries.toArray, .int .i64 4]) ?_ rfl ⟨rfl, ?_⟩
  · simp [results, Try.f24, go_sem, i0, i1, i2, i3]
    rfl
  · exact (((HU.out.setCell (.inr (Nat.le_refl _)) _).setCell (.inr (Nat.le_refl _)) _).setCell (.inr (Nat.le_refl _)) _).setCell (.inr (Nat.le_refl _)) _
theorem sameSpecs0 (w : World) : Calls Try.prog 31 #[.slice none 0 0, .slice none 0 0] w fun e w' => e = .returned (.bool true) ∧ Upd [] w w' := by
  go_enter Try.func31, Try.ntmps31
  go_wp2
  go_loopw [5] (fun i wr => i = .int .i64 0 ∧ wr = w) (fun _ _ => 0)
  case atStart => exact ⟨rfl, rfl⟩
  case round =>
    obtain ⟨rfl, rfl⟩ := hrel
    go_wp2
    go_ret
    exact ⟨rfl, Upd.refl _ _⟩
theorem sameInfo0 (w : World) : Calls Try.prog 26 #[.agg noInfo.toArray, .agg noInfo.toArray] w fun e w' => e = .returned (.bool true) ∧ Upd [] w w' := by
  go_enter Try.func26, Try.ntmps26
  go_wp2_with fail
  refine (sameSpecs0 _).mono ?_
  rintro e w1 ⟨rfl, hU1⟩
  go_wp2
  go_ret
  exact ⟨rfl, (((Upd.refl _ _).alloc _).alloc _).then hU1⟩
theorem sameSeries0 (w : World) : Calls Try.prog 25 #[.agg noSeries.toArray, .agg noSeries.toArray] w fun e w' => e = .returned (.bool true) ∧ Upd [] w w' := by
  have b0 := (HB.new w 66 noSeries).alloc (.cells noSeries.toArray 66)
  have z3 := b0.cell (j := 3) rfl
  have hU0 := Lib.hid (((Upd.refl [] w).alloc (.cells noSeries.toArray 66)).alloc (.cells noSeries.toArray 66))
  clear b0
  go_enter Try.func25, Try.ntmps25
  go_wp2
  go_loopw [5] (fun i wr => i = .int .i64 0 ∧ wr = (w.alloc (.cells noSeries.toArray 66)).alloc (.cells noSeries.toArray 66)) (fun _ _ => 0)
  case atStart => exact ⟨rfl, rfl⟩
  case round =>
    obtain ⟨rfl, rfl⟩ := hrel
    go_wp2
    go_ret
    exact ⟨rfl, hU0.out⟩
end Go.Proofs.Ytdjpcinibgbglaa
