/- slices.SortFunc(out, before) on tallies. -/
import Derived.Test.YthbjpoiolmlpmaaTC
import Derived.Test.YthbjpoiolmlpmaaShelf
namespace Go.Proofs.Ythbjpoiolmlpmaa
open Go.RowKit

theorem swoT : Go.Sort.SWO (Go.Proofs.ltOf TC.cmp) where
  irrefl x := by rw [TC.cmp_lt]; exact ltT_irrefl x
  trans x y z h1 h2 := by rw [TC.cmp_lt] at *; exact ltT_trans h1 h2
  ntrans x y z h1 h2 := by
    rw [TC.cmp_lt] at *
    rcases Bool.eq_false_or_eq_true (ltT x z) with h | h
    · rcases Bool.eq_false_or_eq_true (ltT y x) with k | k
      · have := ltT_trans k h
        rw [h2] at this
        cases this
      · obtain ⟨e1, e2⟩ := ltT_total h1 k
        unfold ltT at h h2
        rw [e1, e2, h2] at h
        cases h
    · exact h
theorem isAggT : ∀ w, (isAgg 36).run Try.prog w = .ok true w := Try.isAgg36
theorem sizeT : ∀ w, (Go.sizeOf 36).run Try.prog w = .ok 9 w := Try.sizeOf36
theorem sortT_calls {w : World} {base n : Nat} {v : Value} {l : List TC} (h : w.ownsRow base 36 9 v n (l.flatMap TC.cells)) (hn : n ≤ 4611686018427387903) :
    Calls Try.prog 9 #[v, .func (.func 10) #[] #[]] w fun e' w' => e' = .returned (.tuple #[]) ∧ ∃ l' : List TC, l'.Perm l ∧ l'.Pairwise (fun a b => ltT b a = false) ∧ w'.ownsRow base 36 9 v n (l'.flatMap TC.cells) ∧ Upd v.ownBlock.toList w w' := by
  have hc := sort_own Try.sortTally 9 (by decide) isAggT sizeT TC.cells TC.len TC.one TC.cmp swoT 10 (enters_of Try.func10 (by kernel_rfl) rfl) (fun x y W => before_calls _ _ _ _ _ _ _ 0 0 _ _ _ _ _ _ _ _ _ _ _ W) h hn
  simp only [TC.cmp_lt] at hc
  exact hc
end Go.Proofs.Ythbjpoiolmlpmaa
