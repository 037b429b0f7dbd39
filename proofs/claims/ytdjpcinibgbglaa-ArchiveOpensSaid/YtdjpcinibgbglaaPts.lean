/- The numbers' comparison, its world said exactly (draws, new blocks); the order of points. -/
import Derived.Test.YtdjpcinibgbglaaWide
import Derived.Test.YtdjpcinibgbglaaKern
import Derived.Test.YtdjpcinibgbglaaSortK
import Derived.Test.YtdjpcinibgbglaaFileL
import Derived.Test.YtdjpcinibgbglaaShelf
import Derived.Shelf.SlSortCmp.QuietGrown
set_option linter.unusedVariables false
set_option linter.unusedSimpArgs false
namespace Go.Proofs.Ytdjpcinibgbglaa
open Go.RowKit Go.Sort
theorem of_gr (n : Int) (hn : I64 n) (w : World) : Calls Try.prog 21 #[.int .i64 n] w fun e w' => e = .returned (wide n) ∧ Gr w w' := by
  unfold I64 at hn
  have e1 : n / 9223372036854775808 = wh n := by unfold wh; omega
  have e2 : IntKind.u64.wrap n = wl n := by simp [IntKind.wrap, IntKind.bits, IntKind.signed, wl]
  go_enter Try.func21, Try.ntmps21
  go_wp2
  refine bodyPost_ret (v := wide n) ?_ rfl ⟨rfl, (Gr.refl _).alloc _⟩
  simp [results, Try.f21, go_sem]
set_option maxHeartbeats 1000000 in
theorem cmp_gr (a b : Int) (w : World) : Calls Try.prog 61 #[wide a, wide b] w fun e w' => e = .returned (.int .i64 (cmpW a b)) ∧ Gr w w' := by
  unfold wide
  generalize hr : cmpW a b = r
  have ea := whl a
  have eb := whl b
  have ua := wl_u a
  have ub := wl_u b
  unfold cmpW at hr
  unfold U64 at ua ub
  generalize wh a = h1 at *
  generalize wl a = l1 at *
  generalize wh b = h2 at *
  generalize wl b = l2 at *
  by_cases c1 : h1 = h2
  · subst c1
    by_cases c2 : l1 = l2
    · subst c2
      obtain rfl : 0 = r := by rw [← hr, if_neg (by omega), if_pos (by omega)]
      clear hr ea eb ua ub
      go_enter Try.func61, Try.ntmps61
      go_wp2
      go_ret
      exact ⟨rfl, ((Gr.refl _).alloc _).alloc _⟩
    · have e2 : (l1 == l2) = false := by simpa using c2
      by_cases c3 : l1 < l2
      · obtain rfl : -1 = r := by rw [← hr, if_pos (by omega)]
        clear hr ea eb ua ub c2
        go_enter Try.func61, Try.ntmps61
        go_wp2
        go_ret
        exact ⟨rfl, ((Gr.refl _).alloc _).alloc _⟩
      · obtain rfl : 1 = r := by rw [← hr, if_neg (by omega), if_neg (by omega)]
        have e3 : decide (l1 < l2) = false := by simpa using c3
        clear hr ea eb ua ub c2 c3
        go_enter Try.func61, Try.ntmps61
        go_wp2
        go_ret
        exact ⟨rfl, ((Gr.refl _).alloc _).alloc _⟩
  · have e1 : (h1 == h2) = false := by simpa using c1
    by_cases c3 : h1 < h2
    · obtain rfl : -1 = r := by rw [← hr, if_pos (by omega)]
      clear hr ea eb ua ub c1
      go_enter Try.func61, Try.ntmps61
      go_wp2
      go_ret
      exact ⟨rfl, ((Gr.refl _).alloc _).alloc _⟩
    · obtain rfl : 1 = r := by rw [← hr, if_neg (by omega), if_neg (by omega)]
      have e3 : decide (h1 < h2) = false := by simpa using c3
      clear hr ea eb ua ub c1 c3
      go_enter Try.func61, Try.ntmps61
      go_wp2
      go_ret
      exact ⟨rfl, ((Gr.refl _).alloc _).alloc _⟩


abbrev ptR (p : Pt) : List Value := [.int .i64 p.t, .int .i64 (wh p.v), .int .u64 (wl p.v)]
def cmpP (x y : Pt) : Int := cmpW x.t y.t
set_option maxHeartbeats 1000000 in
theorem order_calls (x y : Pt) (w : World) (hx : I64 x.t) (hy : I64 y.t) : Calls Try.prog 60 #[.agg (ptR x).toArray, .agg (ptR y).toArray] w fun e w' => e = .returned (.int .i64 (cmpP x y)) ∧ Gr w w' := by
  have b0 := (HB.new w 49 (ptR x)).alloc (.cells (ptR y).toArray 49)
  have b1 := HB.new1 w (.cells (ptR x).toArray 49) 49 (ptR y)
  have HG := Lib.hid (((Gr.refl w).alloc (.cells (ptR x).toArray 49)).alloc (.cells (ptR y).toArray 49))
  obtain ⟨W0, hW0⟩ : ∃ W0, W0 = (w.alloc (.cells (ptR x).toArray 49)).alloc (.cells (ptR y).toArray 49) := ⟨_, rfl⟩
  rw [← hW0] at b0 b1 HG
  have x0 := fun n os => cell_grown (w := W0) (World.block_lt_of_cell? W0 _ (b0.cell (j := 0) rfl)) (b0.cell (j := 0) rfl) n os
  have x1 := fun n os => cell_grown (w := W0) (World.block_lt_of_cell? W0 _ (b1.cell (j := 0) rfl)) (b1.cell (j := 0) rfl) n os
  unfold cmpP
  clear b0 b1
  obtain ⟨tx, vx⟩ := x
  obtain ⟨ty, vy⟩ := y
  dsimp only at *
  go_enter Try.func60, Try.ntmps60
  go_wp2_with fail
  rw [show (w.alloc (Obj.cells #[Value.int .i64 tx, Value.int .i64 (wh vx), Value.int .u64 (wl vx)] 49)).alloc (Obj.cells #[Value.int .i64 ty, Value.int .i64 (wh vy), Value.int .u64 (wl vy)] 49) = W0 from hW0.symm]
  clear hW0
  refine wp_region_quiet_grown (by kernel_rfl) (by kernel_rfl) ?_
  repeat (go_big_quiet_step (first
    | (go_at_call 21; exact Calls.grown_of (of_gr _ (by assumption) _))
    | (go_at_call 61; exact Calls.grown_of (cmp_gr _ _ _))))
  refine wpQuiet_nil ?_
  rintro _ ⟨⟨dq, osq⟩, rfl⟩
  go_wp2
  go_ret
  exact ⟨rfl, HG.out.trans ⟨dq, osq, rfl⟩⟩
end Go.Proofs.Ytdjpcinibgbglaa
