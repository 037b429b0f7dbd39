/- The law ArchiveNobody. -/
import Derived.Test.YtdjpcinibgbglaaAlive
import Derived.Test.YtdjpcinibgbglaaNobody
set_option linter.unusedVariables false
set_option linter.unusedSimpArgs false
namespace Go.Proofs.Ytdjpcinibgbglaa
open Go.RowKit Go.Sort
abbrev hI : GT := .int .i64
abbrev hWide : GT := .struct (.cons hI (.cons (.int .u64) .nil))
abbrev hPoint : GT := .struct (.cons hI (.cons hWide .nil))
abbrev hOp : GT := .struct (.cons hI (.cons hPoint (.cons hI (.cons hI (.cons hI (.cons hI .nil))))))
theorem open_op {w : World} {F : Nat → Prop} {cs : List Value} {x : hOp.den} (h : Rd w F hOp cs x) :
    ∃ c0 c1 c2 c3 c4 c5 c6 c7 : Int, cs = [.int .i64 c0, .int .i64 c1, .int .i64 c2, .int .u64 c3, .int .i64 c4, .int .i64 c5, .int .i64 c6, .int .i64 c7] := by
  obtain ⟨_, _, rfl, ⟨rfl, _⟩, _, _, rfl, ⟨_, _, rfl, ⟨rfl, _⟩, _, _, rfl, ⟨_, _, rfl, ⟨rfl, _⟩, _, _, rfl, ⟨rfl, _⟩, rfl⟩, rfl⟩, _, _, rfl, ⟨rfl, _⟩, _, _, rfl, ⟨rfl, _⟩, _, _, rfl, ⟨rfl, _⟩, _, _, rfl, ⟨rfl, _⟩, rfl⟩ := h
  exact ⟨_, _, _, _, _, _, _, _, rfl⟩
set_option maxRecDepth 20000 in
set_option maxHeartbeats 4000000 in
theorem archiveNobody_calls (cs : List Value) (x0 : GT.den hOp) (W : World) (h0 : Rd W (· < W.heap.size) hOp cs x0) :
    Calls Try.prog 7 #[GT.val hOp cs] W fun e w' => e = .returned (.bool true) ∧ Upd [] W w' := by
  obtain ⟨c0, c1, c2, c3, c4, c5, c6, c7, rfl⟩ := open_op h0
  clear h0
  show Calls Try.prog 7 #[.agg #[.int .i64 c0, .int .i64 c1, .int .i64 c2, .int .u64 c3, .int .i64 c4, .int .i64 c5, .int .i64 c6, .int .i64 c7]] W _
  have b0 := (HB.new W 73 [.int .i64 c0, .int .i64 c1, .int .i64 c2, .int .u64 c3, .int .i64 c4, .int .i64 c5, .int .i64 c6, .int .i64 c7]).alloc (.cells #[.int .i64 0, .int .i64 0, .slice none 0 0, .nilFunc] 77)
  have b1 := HB.new1 W (.cells #[.int .i64 c0, .int .i64 c1, .int .i64 c2, .int .u64 c3, .int .i64 c4, .int .i64 c5, .int .i64 c6, .int .i64 c7] 73) 77 [.int .i64 0, .int .i64 0, .slice none 0 0, .nilFunc]
  have hU0 := ((Upd.refl [] W).alloc (.cells #[.int .i64 c0, .int .i64 c1, .int .i64 c2, .int .u64 c3, .int .i64 c4, .int .i64 c5, .int .i64 c6, .int .i64 c7] 73)).alloc (.cells #[.int .i64 0, .int .i64 0, .slice none 0 0, .nilFunc] 77)
  have HN0 := Lib.hid (show ∀ w, NB none w from fun w Z _ => made_nil Z)
  have HB0 := Lib.hid b0
  have HB1 := Lib.hid b1
  have HU0 := Lib.hid hU0
  have y4 := b0.cell (j := 4) rfl
  have y5 := b0.cell (j := 5) rfl
  have y6 := b0.cell (j := 6) rfl
  clear b0 b1 hU0
  go_enter Try.func7, Try.ntmps7
  go_wp2_with fail
  refine (nbFetch none c4 c5 c6 _ (HN0.out _)).mono ?_
  rintro e w1 ⟨rfl, hU1⟩
  have HB2 := Lib.hid ((HB0.out.upd hU1 (by simp)).alloc (.cells noSeries.toArray 66))
  have HB3 := Lib.hid ((HB1.out.upd hU1 (by simp)).alloc (.cells noSeries.toArray 66))
  have HS1 := Lib.hid (HB.new w1 66 noSeries)
  have HU1 := Lib.hid ((HU0.out.then hU1).alloc (.cells noSeries.toArray 66))
  clear hU1 y4 y5 y6
  have y4 := HB2.out.cell (j := 4) rfl
  have y5 := HB2.out.cell (j := 5) rfl
  have y6 := HB2.out.cell (j := 6) rfl
  go_wp2_with fail
  refine (nbFetch (some ⟨W.heap.size + 1, 0, none⟩) c4 c5 c6 _ (fun Z hZ => madeE _ Z (HB3.out.upd hZ (by simp)))).mono ?_
  rintro e w2 ⟨rfl, hU2⟩
  obtain ⟨W3, hW3⟩ : ∃ W3, W3 = w2.alloc (.cells noSeries.toArray 66) := ⟨_, rfl⟩
  have HB4 := Lib.hid (show HB W3 W.heap.size 73 [.int .i64 c0, .int .i64 c1, .int .i64 c2, .int .u64 c3, .int .i64 c4, .int .i64 c5, .int .i64 c6, .int .i64 c7] by rw [hW3]; exact (HB2.out.upd hU2 (by simp)).alloc _)
  have HB5 := Lib.hid (show HB W3 (W.heap.size + 1) 77 [.int .i64 0, .int .i64 0, .slice none 0 0, .nilFunc] by rw [hW3]; exact (HB3.out.upd hU2 (by simp)).alloc _)
  have HS2 := Lib.hid (show HB W3 w1.heap.size 66 noSeries by rw [hW3]; exact (HS1.out.upd hU2 (by simp)).alloc _)
  have HS3 := Lib.hid (show HB W3 w2.heap.size 66 noSeries by rw [hW3]; exact HB.new w2 _ noSeries)
  have HU3 := Lib.hid (show Upd [] W W3 by rw [hW3]; exact (HU1.out.then hU2).alloc _)
  clear hU2 y4 y5 y6
  go_wp2_with fail
  rw [show w2.alloc (Obj.cells #[Value.string ByteArray.empty, Value.int .i64 0, Value.int .i64 0, Value.slice none 0 0] 66) = W3 from hW3.symm]
  have HNG := Lib.hid (show ∀ d os, NB (some ⟨W.heap.size + 1, 0, none⟩) (grow (redrawn W3 d) os) from fun d os Z hZ => madeE _ Z ((HB5.out.upd (rg_upd W3 d os) (by simp)).upd hZ (by simp)))
  have x1 := fun d os => rg_cell (HB4.out.cell (j := 1) rfl) d os
  have x2 := fun d os => rg_cell (HB4.out.cell (j := 2) rfl) d os
  have x3 := fun d os => rg_cell (HB4.out.cell (j := 3) rfl) d os
  have x6 := fun d os => rg_cell (HB4.out.cell (j := 6) rfl) d os
  have x7 := fun d os => rg_cell (HB4.out.cell (j := 7) rfl) d os
  have s0 := fun d os => rg_cell (HS2.out.cell (j := 0) rfl) d os
  have s1 := fun d os => rg_cell (HS2.out.cell (j := 1) rfl) d os
  have s2 := fun d os => rg_cell (HS2.out.cell (j := 2) rfl) d os
  have s3 := fun d os => rg_cell (HS2.out.cell (j := 3) rfl) d os
  have r0 := fun d os => rg_cell (HS3.out.cell (j := 0) rfl) d os
  have r1 := fun d os => rg_cell (HS3.out.cell (j := 1) rfl) d os
  have r2 := fun d os => rg_cell (HS3.out.cell (j := 2) rfl) d os
  have r3 := fun d os => rg_cell (HS3.out.cell (j := 3) rfl) d os
  clear hW3
  simp only [List.append]
  refine wp_region_quiet_below (by kernel_rfl) (by kernel_rfl) ?_
  repeat (go_big_quiet_step (first
    | (go_at_call 14; with_reducible exact rg_of (alive_calls _))
    | (go_at_call 20; first | with_reducible exact rg_of (nbUpd none c1 c2 c3 c6 _ (HN0.out _)) | with_reducible exact rg_of (nbUpd _ c1 c2 c3 c6 _ (HNG.out _ _)))
    | (go_at_call 25; exact rg_of (sameSeries0 _))
    | (go_at_call 17; first | with_reducible exact rg_of (nbPoints none c7 _ (HN0.out _)) | with_reducible exact rg_of (nbPoints _ c7 _ (HNG.out _ _)))
    | (go_at_call 23; first | with_reducible exact rg_of (nbBytes none _ (HN0.out _)) | with_reducible exact rg_of (nbBytes _ _ (HNG.out _ _)))
    | (go_at_call 27; first | with_reducible exact rg_of (nbInfo none _ (HN0.out _)) | with_reducible exact rg_of (nbInfo _ _ (HNG.out _ _)))
    | (go_at_call 26; exact rg_of (sameInfo0 _))))
  refine wpQuiet_nil ?_
  rintro _ ⟨⟨dq, osq⟩, rfl⟩
  clear x1 x2 x3 x6 x7 s0 s1 s2 s3 r0 r1 r2 r3
  go_wp2
  go_ret
  exact ⟨rfl, HU3.out.then (rg_upd _ _ _)⟩
end Go.Proofs.Ytdjpcinibgbglaa
