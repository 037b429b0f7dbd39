/- archive.Check. -/
import Derived.Test.YtdjpcinibgbglaaFnC
set_option linter.unusedVariables false
set_option linter.unusedSimpArgs false
namespace Go.Proofs.Ytdjpcinibgbglaa
open Go.RowKit Go.Sort
theorem RowK.take {α : Type} {w : World} {F : Nat → Prop} {enc : α → List Value} {k : Nat} {A : Option Addr} {n c : Nat} {xs : List α} (h : RowK w F enc k (.slice A n c) xs) (m : Nat) (hm : m ≤ n) : RowK w F enc k (.slice A m c) (xs.take m) := by
  obtain ⟨A', c', e, h2, h3, h4, h5⟩ := h
  injection e with e1 e2 e3
  subst e1 e2 e3
  have hl : (xs.take m).length = m := by simp; omega
  refine ⟨A, c, by rw [hl], by omega, h3, h4, fun i x hx => ?_⟩
  have hi : i < m := by have := (List.getElem?_eq_some_iff.1 hx).1; omega
  rw [List.getElem?_take_of_lt hi] at hx
  exact h5 i x hx
theorem take_last {α : Type} (l : List α) (k : Nat) (x : α) (h : l[k]? = some x) : (l.take (k + 1)).getLast? = some x := by
  have hk := (List.getElem?_eq_some_iff.1 h).1
  rw [List.getLast?_eq_getElem?, List.length_take, Nat.min_eq_left (by omega), Nat.add_sub_cancel, List.getElem?_take_of_lt (by omega), h]
theorem drop_cons' {α : Type} (l : List α) (k : Nat) (x : α) (h : l[k]? = some x) : l.drop k = x :: l.drop (k + 1) := by
  obtain ⟨hk, rfl⟩ := List.getElem?_eq_some_iff.1 h
  exact List.drop_eq_getElem_cons hk
set_option maxHeartbeats 1000000 in
theorem check_calls (F : Nat → Prop) (v : Value) (l : List Spc) (w : World) (hr : RowK w F spcC 2 v l) (hs : ∀ s ∈ l, I64S s) :
    Calls Try.prog 12 #[v] w fun e w' => e = .returned (.tuple #[.int .i64 (check l).1, .int .i64 (check l).2]) ∧ Upd [] w w' := by
  obtain ⟨A, c, rfl, hc1, hc2, hc3⟩ := hr.shape
  rcases hl : l with _ | ⟨s0, l0⟩
  · subst hl
    go_enter Try.func12, Try.ntmps12
    go_wp2
    go_ret2
    exact ⟨rfl, Upd.refl _ _⟩
  · rw [← hl]
    have hne : check l = chk 0 none l := by rw [hl]; rfl
    rw [hne]
    obtain ⟨r1, hr1⟩ : ∃ r1, r1 = (chk 0 none l).1 := ⟨_, rfl⟩
    obtain ⟨r2, hr2⟩ : ∃ r2, r2 = (chk 0 none l).2 := ⟨_, rfl⟩
    rw [← hr1, ← hr2]
    have hpos : 0 < l.length := by rw [hl]; simp
    obtain ⟨b, o, hA, hF, -⟩ := hr.at_ (i := 0) (x := s0) (by rw [hl]; rfl)
    subst hA
    have e0 : ((l.length : Int) == 0) = false := beq_false_of_ne (by omega)
    have HR := Lib.hid hr
    have HS := Lib.hid hs
    have HR1 := Lib.hid hr1
    have HR2 := Lib.hid hr2
    clear hl hne hr hs hr1 hr2
    have hlm : l.length ≤ 9223372036854775807 := Nat.le_trans hc1 (Nat.le_trans hc2 (by unfold maxLen; decide))
    have HC2 := Lib.hid hc2
    clear hc2 hc3
    go_enter Try.func12, Try.ntmps12
    go_wp2
    go_loopw [11] (fun i wr => ∃ k : Nat, k ≤ l.length ∧ i = .int .i64 (k : Int) ∧ Upd [] w wr ∧ k ≤ 8 ∧ chk 0 none l = chk k (l.take k).getLast? (l.drop k) ∧ (∀ a, (l.take k).getLast? = some a → okSpc a = true)) (fun i _ => l.length - (intOf i).toNat)
    case atStart => exact ⟨0, Nat.zero_le _, rfl, Upd.refl _ _, by omega, by simp, by simp⟩
    case round =>
      obtain ⟨k, hk, rfl, hU, hk8, hchk, hok⟩ := hrel
      have HU := Lib.hid hU
      have HCHK := Lib.hid hchk
      have HOK := Lib.hid hok
      clear hU hchk hok
      by_cases hlt : k < l.length
      · obtain ⟨⟨s, n⟩, hx⟩ : ∃ s, l[k]? = some s := ⟨l[k], List.getElem?_eq_getElem hlt⟩
        obtain ⟨b', o', hA, hF', hcell⟩ := HR.out.at_ hx
        injection hA with hA
        injection hA with hb ho _
        subst hb ho
        have c0 : wr.cell? ⟨b, o + k * 2, none⟩ = some (.int .i64 s) := HU.out.cell (by simpa using hcell 0 _ rfl) (by simp)
        have c1 : wr.cell? ⟨b, o + k * 2 + 1, none⟩ = some (.int .i64 n) := HU.out.cell (hcell 1 _ rfl) (by simp)
        have hdr : l.drop k = (s, n) :: l.drop (k + 1) := drop_cons' l k _ hx
        have HX := Lib.hid hx
        have HDR := Lib.hid hdr
        clear hcell hdr hx hF'
        by_cases h8 : k = 8
        · obtain rfl : r1 = 8 := by rw [HR1.out, HCHK.out, HDR.out]; simp [chk, h8]
          obtain rfl : r2 = 190 := by rw [HR2.out, HCHK.out, HDR.out]; simp [chk, h8]
          clear HR1 HR2 HCHK HDR HX
          subst h8
          go_wp2_with fail
          obtain ⟨W1, hW1⟩ : ∃ W1, W1 = wr.alloc (.cells #[.int .i64 s, .int .i64 n] 44) := ⟨_, rfl⟩
          have b0 : HB W1 wr.heap.size 44 [.int .i64 s, .int .i64 n] := by rw [hW1]; exact HB.new wr _ [.int .i64 s, .int .i64 n]
          have HU1 := Lib.hid (show Upd [] wr W1 by rw [hW1]; exact (Upd.refl _ _).alloc _)
          rw [← hW1]
          have x0 := fun d os => rg_cell (b0.cell (j := 0) rfl) d os
          have x1 := fun d os => rg_cell (b0.cell (j := 1) rfl) d os
          clear hW1 b0 c0 c1
          refine wp_region_quiet_below (by kernel_rfl) (by kernel_rfl) ?_
          repeat (go_big_quiet_step (fail))
          refine wpQuiet_nil ?_
          rintro _ ⟨⟨dq, osq⟩, rfl⟩
          go_wp2
          go_ret2
          exact ⟨rfl, (HU.out.then HU1.out).then0 (rg_upd _ _ _)⟩
        · have e8 : ((k : Int) == 8) = false := by simp; omega
          have HF := Lib.hid (fun W (hW : Upd [] w W) => fits_calls (s, n) F (.slice (some ⟨b, o, none⟩) k c) (l.take k) W ((HR.out.take k hk).upd0 hW) (HS.out _ (List.mem_of_getElem? HX.out)) HOK.out)
          rcases Bool.eq_false_or_eq_true (fitsS (s, n) (l.take k).getLast?) with hf | hf
          · rw [hf] at HF
            have HFT := Lib.hid hf
            clear hf
            go_wp2_with fail
            obtain ⟨W1, hW1⟩ : ∃ W1, W1 = wr.alloc (.cells #[.int .i64 s, .int .i64 n] 44) := ⟨_, rfl⟩
            have b0 : HB W1 wr.heap.size 44 [.int .i64 s, .int .i64 n] := by rw [hW1]; exact HB.new wr _ [.int .i64 s, .int .i64 n]
            have HU1 := Lib.hid (show Upd [] wr W1 by rw [hW1]; exact (Upd.refl _ _).alloc _)
            rw [← hW1]
            have x0 := fun d os => rg_cell (b0.cell (j := 0) rfl) d os
            have x1 := fun d os => rg_cell (b0.cell (j := 1) rfl) d os
            clear hW1 b0 c0 c1
            refine wp_region_quiet_below (by kernel_rfl) (by kernel_rfl) ?_
            repeat (go_big_quiet_step ((go_at_call 32; exact rg_of (HF.out _ ((HU.out.then HU1.out).then0 (rg_upd _ _ _))))))
            refine wpQuiet_nil ?_
            rintro _ ⟨⟨dq, osq⟩, rfl⟩
            go_wp2
            refine ⟨⟨k + 1, by omega, rfl, (HU.out.then HU1.out).then0 (rg_upd _ _ _), by omega, ?_, ?_⟩, by show l.length - ((k : Int) + 1).toNat < l.length - ((k : Int)).toNat; omega⟩
            · rw [HCHK.out, HDR.out, take_last l k _ HX.out]
              simp [chk, h8, HFT.out]
            · intro a ha
              rw [take_last l k _ HX.out] at ha
              injection ha with ha
              subst ha
              have h := HFT.out
              revert h
              cases (l.take k).getLast? <;> simp [fitsS]
              intro h _
              exact h
          · rw [hf] at HF
            obtain rfl : r1 = k := by rw [HR1.out, HCHK.out, HDR.out]; simp [chk, h8, hf]
            obtain rfl : r2 = 190 := by rw [HR2.out, HCHK.out, HDR.out]; simp [chk, h8, hf]
            clear HR1 HR2 HCHK HDR HX hf
            go_wp2_with fail
            obtain ⟨W1, hW1⟩ : ∃ W1, W1 = wr.alloc (.cells #[.int .i64 s, .int .i64 n] 44) := ⟨_, rfl⟩
            have b0 : HB W1 wr.heap.size 44 [.int .i64 s, .int .i64 n] := by rw [hW1]; exact HB.new wr _ [.int .i64 s, .int .i64 n]
            have HU1 := Lib.hid (show Upd [] wr W1 by rw [hW1]; exact (Upd.refl _ _).alloc _)
            rw [← hW1]
            have x0 := fun d os => rg_cell (b0.cell (j := 0) rfl) d os
            have x1 := fun d os => rg_cell (b0.cell (j := 1) rfl) d os
            clear hW1 b0 c0 c1
            refine wp_region_quiet_below (by kernel_rfl) (by kernel_rfl) ?_
            repeat (go_big_quiet_step ((go_at_call 32; exact rg_of (HF.out _ ((HU.out.then HU1.out).then0 (rg_upd _ _ _))))))
            refine wpQuiet_nil ?_
            rintro _ ⟨⟨dq, osq⟩, rfl⟩
            go_wp2
            go_ret2
            exact ⟨rfl, (HU.out.then HU1.out).then0 (rg_upd _ _ _)⟩
      · obtain rfl : k = l.length := by omega
        obtain rfl : r1 = 0 := by rw [HR1.out, HCHK.out]; simp [chk]
        obtain rfl : r2 = 0 := by rw [HR2.out, HCHK.out]; simp [chk]
        clear HR1 HR2 HCHK
        go_wp2
        go_ret2
        exact ⟨rfl, HU.out⟩
end Go.Proofs.Ytdjpcinibgbglaa
