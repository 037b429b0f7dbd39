/- cmp.Compare, cmp.Or of two, agg.before. -/
import Derived.Test.YthbjpoiolmlpmaaGreatDoorProg
import Derived.Test.YthbjpoiolmlpmaaGreatDoorOrd
import Derived.Test.YthbjpoiolmlpmaaGreatDoorKern
import Derived.WalkLawsBesides
import Derived.WalkSpells
import Derived.StillTailTactics
set_option linter.unusedVariables false
set_option linter.unusedSimpArgs false
namespace Go.Proofs.YthbjpoiolmlpmaaGreatDoor
open Go.RowKit

theorem cmpS_lt {a b : ByteArray} (h : sLt a b = true) : cmpS a b = -1 := by unfold cmpS; rw [if_pos h]
theorem cmpS_gt {a b : ByteArray} (h : sLt a b = false) (k : (!(a.toList == b.toList)) = true) : cmpS a b = 1 := by
  unfold cmpS
  rw [if_neg (by rw [h]; decide), if_neg (by intro e; subst e; simp at k)]
theorem cmpS_eq {a b : ByteArray} (h : sLt a b = false) (k : (!(a.toList == b.toList)) = false) : cmpS a b = 0 := by
  unfold cmpS
  rw [if_neg (by rw [h]; decide), if_pos (by rw [← toList_inj]; simpa using k)]
theorem cmpStr_calls (a b : ByteArray) (w : World) : Calls Tryz.prog 66 #[.string a, .string b] w fun e w' => e = .returned (.int .i64 (cmpS a b)) ∧ w' = w := by
  have h1 : ∀ x y : ByteArray, Op.bytesLess x.toList y.toList = sLt x y := fun _ _ => rfl
  go_enter Tryz.func66, Tryz.ntmps66
  go_wp2
  all_goals go_ret
  · exact ⟨ret_int (cmpS_lt (by assumption)).symm, rfl⟩
  · exact ⟨ret_int (cmpS_gt (by assumption) (by assumption)).symm, rfl⟩
  · exact ⟨ret_int (cmpS_eq (by assumption) (by assumption)).symm, rfl⟩

theorem cmpInt_calls (a b : Int) (w : World) : Calls Tryz.prog 65 #[.int .i64 a, .int .i64 b] w fun e w' => e = .returned (.int .i64 (cmpI a b)) ∧ w' = w := by
  go_enter Tryz.func65, Tryz.ntmps65
  go_wp2
  all_goals go_ret
  all_goals refine ⟨ret_int ?_, rfl⟩
  all_goals unfold cmpI
  · rw [if_pos (by assumption)]
  · rw [if_neg (by omega), if_pos (by assumption)]
  · rw [if_neg (by omega), if_neg (by omega)]

def or2 (x y : Int) : Int := if x = 0 then y else x
theorem or2_l {x y : Int} (h : (!(x == 0)) = true) : or2 x y = x := by unfold or2; rw [if_neg (by intro e; subst e; simp at h)]
theorem or2_r {y : Int} : or2 0 y = y := by simp [or2]
set_option maxHeartbeats 400000 in
theorem or2_calls (x y : Int) (b : Nat) (w : World) (h0 : w.cell? ⟨b, 0, none⟩ = some (.int .i64 x)) (h1 : w.cell? ⟨b, 1, none⟩ = some (.int .i64 y)) :
    Calls Tryz.prog 64 #[.slice (some ⟨b, 0, none⟩) 2 2] w fun e w' => e = .returned (.int .i64 (or2 x y)) ∧ w' = w := by
  go_enter Tryz.func64, Tryz.ntmps64
  go_wp2
  go_loop [8] (fun i => ∃ k : Nat, k ≤ 2 ∧ i = .int .i64 k ∧ (1 ≤ k → x = 0) ∧ (2 ≤ k → y = 0)) (fun i => 2 - (intOf i).toNat)
  case atStart => exact ⟨0, by omega, rfl, by omega, by omega⟩
  case round =>
    obtain ⟨k, hk, rfl, hx, hy⟩ := hrel
    rcases Nat.lt_or_ge k 1 with h | h
    · obtain rfl : k = 0 := by omega
      clear hx hy hk
      by_cases hx : x = 0
      · subst hx
        go_wp2
        go_round
        case rel => exact ⟨1, by omega, rfl, by simp, by omega⟩
        case measure => simp [intOf]
      · have e : (!(x == 0)) = true := by simpa using hx
        have e' : (x != 0) = true := by simpa using hx
        go_wp2
        go_ret
        exact ⟨ret_int (or2_l e).symm, rfl⟩
    · have hx0 := hx h
      subst hx0
      clear hx
      rcases Nat.lt_or_ge k 2 with h' | h'
      · obtain rfl : k = 1 := by omega
        clear hy hk h h'
        by_cases hy : y = 0
        · subst hy
          go_wp2
          go_round
          case rel => exact ⟨2, by omega, rfl, by simp, by simp⟩
          case measure => simp [intOf]
        · have e : (!(y == 0)) = true := by simpa using hy
          have e' : (y != 0) = true := by simpa using hy
          go_wp2
          go_ret
          exact ⟨ret_int or2_r.symm, rfl⟩
      · obtain rfl : k = 2 := by omega
        have hy0 := hy h'
        subst hy0
        clear hy hk h h'
        go_wp2
        go_ret
        exact ⟨ret_int or2_r.symm, rfl⟩

def cmpT (k1 : Int) (n1 : ByteArray) (k2 : Int) (n2 : ByteArray) : Int := or2 (cmpI k1 k2) (cmpS n1 n2)
set_option maxRecDepth 20000 in
set_option maxHeartbeats 1000000 in
theorem before_calls (k1 : Int) (n1 : ByteArray) (a2 a3 a4 a5 a6 a7 a8 k2 : Int) (n2 : ByteArray) (b2 b3 b4 b5 b6 : Int) (s1 s2 s3 s4 : Value) (w : World) :
    Calls Tryz.prog 48 #[.agg #[.int .i64 k1, .string n1, .int .i64 a2, .int .i64 a3, .int .u64 a4, .int .i64 a5, .int .u64 a6, s1, s2], .agg #[.int .i64 k2, .string n2, .int .i64 b2, .int .i64 b3, .int .u64 b4, .int .i64 b5, .int .u64 b6, s3, s4]] w fun e w' => e = .returned (.int .i64 (cmpT k1 n1 k2 n2)) ∧ Gr w w' := by
  go_enter Tryz.func48, Tryz.ntmps48
  go_wp2
  refine still_tail 10 (by kernel_rfl) (by kernel_rfl) ?_
  simp only [List.take_succ_cons, List.take_zero, List.drop_succ_cons, List.drop_zero]
  still_step
  still_step
  still_step
  still_step
  still_call (cmpInt_calls _ _ _)
  still_step
  still_step
  still_step
  still_step
  still_call (cmpStr_calls _ _ _)
  refine wpStill_nil ?_
  go_wp2_with (go_at_call 64; refine (or2_calls (cmpI k1 k2) (cmpS n1 n2) _ _ (by simp [go_sem]) (by simp [go_sem])).mono ?_; rintro e w' ⟨rfl, rfl⟩)
  go_ret
  exact ⟨rfl, by repeat (first | exact Gr.refl _ | apply Gr.drewN | apply Gr.drew | apply Gr.alloc)⟩
end Go.Proofs.YthbjpoiolmlpmaaGreatDoor
