/- slices.SortFunc(out, before) on tallies. -/
import Derived.Test.YthbjpoiolmlpmaaGreatDoorTC
import Derived.Test.YthbjpoiolmlpmaaGreatDoorShelf
namespace Go.Proofs.YthbjpoiolmlpmaaGreatDoor
open Go.RowKit

theorem swoT : Go.Sort.SWO (Go.Proofs.ltOf TC.cmp) where
  irrefl x := by rw [TC.cmp_lt]; exact ltT_irrefl x
  trans x y z h1 h2 := by rw [TC.cmp_lt] at *; exact ltT_trans h1 h2
  ntrans x y z h1 h2 := by
    rw [TC.cmp_lt] at *
    rcases Bool.eq_false_or_eq_true (ltT x z) with h | h
    · rcases Bool.eq_false_or_eq_true (ltT y x) with k | k
      · have := ltT_trans k h
        rw [h2] at this
        cases this
      · obtain ⟨e1, e2⟩ := ltT_total h1 k
        unfold ltT at h h2
        rw [e1, e2, h2] at h
        cases h
    · exact h
theorem isAggT : ∀ w, (isAgg 54).run Tryz.prog w = .ok true w := Tryz.isAgg54
theorem sizeT : ∀ w, (Go.sizeOf 54).run Tryz.prog w = .ok 9 w := Tryz.sizeOf54
theorem sortT_calls {w : World} {base n : Nat} {v : Value} {l : List TC} (h : w.ownsRow base 54 9 v n (l.flatMap TC.cells)) (hn : n ≤ 4611686018427387903) :
    Calls Tryz.prog 47 #[v, .func (.func 48) #[] #[]] w fun e' w' => e' = .returned (.tuple #[]) ∧ ∃ l' : List TC, l'.Perm l ∧ l'.Pairwise (fun a b => ltT b a = false) ∧ w'.ownsRow base 54 9 v n (l'.flatMap TC.cells) ∧ Upd v.ownBlock.toList w w' := by
  have hc := sort_own Tryz.sortTally 9 (by decide) isAggT sizeT TC.cells TC.len TC.one TC.cmp swoT 48 (enters_of Tryz.func48 (by kernel_rfl) rfl) (fun x y W => before_calls _ _ _ _ _ _ _ 0 0 _ _ _ _ _ _ _ _ _ _ _ W) h hn
  simp only [TC.cmp_lt] at hc
  exact hc
end Go.Proofs.YthbjpoiolmlpmaaGreatDoor
