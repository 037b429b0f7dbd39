/- Keys of maps: metrics, numbers, texts. -/
import Derived.Test.YthbjpoiolmlpmaaGreatDoorMap
import Derived.Test.YthbjpoiolmlpmaaGreatDoorOrd
import Derived.Test.YthbjpoiolmlpmaaGreatDoorProg
set_option linter.unusedVariables false
set_option linter.unusedSimpArgs false
namespace Go.Proofs.YthbjpoiolmlpmaaGreatDoor
open Go.RowKit
/-- A metric as a map's key. -/
def kvM (x : Int × ByteArray) : Value := .agg #[.int .i64 x.1, .string x.2]
theorem checkM (w : World) (em : Bool) (n : Nat) (x : Int × ByteArray) : (Instr.checkKey em (n + 2) 90 (kvM x)).run Tryz.prog w = .ok () w := by
  unfold kvM
  unfold Instr.checkKey
  simp only [Sem.run_bind, run_underlying Tryz.underlying90, Result.andThen]
  have h1 : ∀ w n, (Instr.checkKey em (n + 1) 28 (.int .i64 x.1)).run Tryz.prog w = .ok () w := fun w n => by
    unfold Instr.checkKey
    simp [Sem.run_bind, run_underlying Tryz.underlying28, Result.andThen]
  have h2 : ∀ w n, (Instr.checkKey em (n + 1) 9 (.string x.2)).run Tryz.prog w = .ok () w := fun w n => by
    unfold Instr.checkKey
    simp [Sem.run_bind, run_underlying Tryz.underlying9, Result.andThen]
  simp [Sem.run_bind, Result.andThen, go_sem, h1, h2]
theorem eqM (w : World) (n : Nat) (x y : Int × ByteArray) : (Op.equalIn (n + 3) 90 (kvM x) (kvM y)).run Tryz.prog w = .ok (decide (x = y)) w := by
  unfold kvM
  have hf : Tryz.prog.underlying 90 = some (.struct (Tryz.prog.fieldsOf 90)) := by kernel_rfl
  have hp : Tryz.prog.stoodInHeld 90 = false := by kernel_rfl
  rw [run_equalIn_agg w _ _ _ _ hf hp]
  have e : decide (x = y) = (decide (x.1 = y.1) && decide (x.2 = y.2)) := by
    obtain ⟨a, b⟩ := x
    obtain ⟨c, d⟩ := y
    simp
  rw [e]
  by_cases h1 : x.1 = y.1
  · by_cases h2 : x.2 = y.2
    · simp [go_sem, h1, h2]
    · have h3 : ¬ x.2.toList = y.2.toList := fun e => h2 (toList_inj.1 e)
      simp [go_sem, h1, h2, h3]
  · simp [go_sem, h1]
theorem klM : KL Tryz.prog 90 kvM where
  check w em x := checkM w em 9998 x
  under := ⟨_, Tryz.underlying90, .inr ⟨fun x y => rfl, fun w x y => eqM w 9997 x y⟩⟩
  stays w x := by
    unfold kvM Instr.keyThatStays
    have : (x.2 == x.2) = true := by rw [beq_toListBytes]; simp
    simp [Instr.sameBits, this]

theorem klS : KL Tryz.prog 9 Value.string where
  check w em x := by
    unfold Instr.checkKey
    simp [Sem.run_bind, run_underlying Tryz.underlying9, Result.andThen]
  under := ⟨_, Tryz.underlying9, .inl (fun x y => by
    simp only [Instr.sameNow]
    congr 1
    rw [beq_toListBytes]
    by_cases h : x = y
    · subst h; simp
    · have h3 : ¬ x.toList = y.toList := fun e => h (toList_inj.1 e)
      simp [h, h3])⟩
  stays w x := by
    unfold Instr.keyThatStays
    have : (x == x) = true := by rw [beq_toListBytes]; simp
    simp [Instr.sameBits, this]
theorem klI : KL Tryz.prog 2 (Value.int .i64) where
  check w em x := by
    unfold Instr.checkKey
    simp [Sem.run_bind, run_underlying Tryz.underlying2, Result.andThen]
  under := ⟨_, Tryz.underlying2, .inl (fun x y => by
    simp only [Instr.sameNow]
    by_cases h : x = y
    · subst h; simp
    · simp [h])⟩
  stays w x := by
    unfold Instr.keyThatStays
    simp [Instr.sameBits]
end Go.Proofs.YthbjpoiolmlpmaaGreatDoor
