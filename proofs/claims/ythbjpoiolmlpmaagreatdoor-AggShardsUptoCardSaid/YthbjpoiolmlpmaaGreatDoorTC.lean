/- A tally as it lies in cells. -/
import Derived.Test.YthbjpoiolmlpmaaGreatDoorTally
import Derived.Test.YthbjpoiolmlpmaaGreatDoorCmp
import Derived.Test.YthbjpoiolmlpmaaGreatDoorSortK
set_option linter.unusedVariables false
set_option linter.unusedSimpArgs false
namespace Go.Proofs.YthbjpoiolmlpmaaGreatDoor
open Go.RowKit

structure TC where
  k : Int
  n : ByteArray
  c : Int
  sh : Int
  sl : Int
  wh : Int
  wl : Int
  sa : Option Addr
  sn : Nat
  sc : Nat
  ma : Option Addr
  mn : Nat
  mc : Nat
instance : Inhabited TC := ⟨⟨0, ByteArray.empty, 0, 0, 0, 0, 0, none, 0, 0, none, 0, 0⟩⟩
def TC.cells (t : TC) : List Value := [.int .i64 t.k, .string t.n, .int .i64 t.c, .int .i64 t.sh, .int .u64 t.sl, .int .i64 t.wh, .int .u64 t.wl, .slice t.sa t.sn t.sc, .slice t.ma t.mn t.mc]
theorem TC.len (t : TC) : t.cells.length = 9 := rfl
theorem TC.one (t : TC) : ∀ u ∈ t.cells, u.oneCell' = true := by
  intro u hu
  simp only [TC.cells, List.mem_cons, List.mem_nil_iff, or_false] at hu
  rcases hu with rfl | rfl | rfl | rfl | rfl | rfl | rfl | rfl | rfl <;> rfl

/-- The order of tallies: by kind, then by name. -/
def TC.cmp (a b : TC) : Int := cmpT a.k a.n b.k b.n
def ltT (a b : TC) : Bool := decide (a.k < b.k) || (decide (a.k = b.k) && sLt a.n b.n)
theorem TC.cmp_lt (a b : TC) : Go.Proofs.ltOf TC.cmp a b = ltT a b := by
  unfold Go.Proofs.ltOf TC.cmp cmpT or2 cmpI cmpS ltT
  by_cases h1 : a.k < b.k
  · simp [h1]
  · by_cases h2 : b.k < a.k
    · have h3 : ¬ a.k = b.k := by omega
      simp [h1, h2, h3]
    · have h3 : a.k = b.k := by omega
      rcases Bool.eq_false_or_eq_true (sLt a.n b.n) with h4 | h4
      · simp [h3, h4]
      · by_cases h5 : a.n = b.n <;> simp [h3, h4, h5, sLt_irrefl]
theorem ltT_irrefl (a : TC) : ltT a a = false := by simp [ltT, sLt_irrefl]
theorem ltT_iff (a b : TC) : ltT a b = true ↔ a.k < b.k ∨ (a.k = b.k ∧ sLt a.n b.n = true) := by simp [ltT]
theorem ltT_trans {a b c : TC} (h : ltT a b = true) (k : ltT b c = true) : ltT a c = true := by
  rw [ltT_iff] at *
  rcases h with h | ⟨h, h'⟩ <;> rcases k with k | ⟨k, k'⟩
  · exact .inl (by omega)
  · exact .inl (by omega)
  · exact .inl (by omega)
  · exact .inr ⟨by omega, sLt_trans h' k'⟩
theorem ltT_total {a b : TC} (h : ltT a b = false) (k : ltT b a = false) : a.k = b.k ∧ a.n = b.n := by
  have h' : ¬ (a.k < b.k ∨ (a.k = b.k ∧ sLt a.n b.n = true)) := by rw [← ltT_iff, h]; decide
  have k' : ¬ (b.k < a.k ∨ (b.k = a.k ∧ sLt b.n a.n = true)) := by rw [← ltT_iff, k]; decide
  have e : a.k = b.k := by omega
  refine ⟨e, sLt_total ?_ ?_⟩
  · rcases Bool.eq_false_or_eq_true (sLt a.n b.n) with q | q
    · exact absurd (.inr ⟨e, q⟩) h'
    · exact q
  · rcases Bool.eq_false_or_eq_true (sLt b.n a.n) with q | q
    · exact absurd (.inr ⟨e.symm, q⟩) k'
    · exact q
set_option maxHeartbeats 1000000 in
/-- tumblerref08.Below. -/
theorem below_calls (a b : TC) (w : World) :
    Calls Tryz.prog 21 #[.agg a.cells.toArray, .agg b.cells.toArray] w fun e w' => e = .returned (.bool (ltT a b)) ∧ Gr w w' := by
  generalize hr : ltT a b = r
  rw [ltT] at hr
  obtain ⟨k1, n1, a2, a3, a4, a5, a6, a7, a8, a9, a10, a11, a12⟩ := a
  obtain ⟨k2, n2, b2, b3, b4, b5, b6, b7, b8, b9, b10, b11, b12⟩ := b
  simp only [TC.cells] at hr ⊢
  have hs : Op.bytesLess n1.toList n2.toList = sLt n1 n2 := rfl
  by_cases h1 : k1 < k2
  · obtain rfl : true = r := by simpa [h1] using hr
    clear hr
    go_enter Tryz.func21, Tryz.ntmps21
    go_wp2
    go_ret
    exact ⟨rfl, by repeat (first | exact Gr.refl _ | apply Gr.drewN | apply Gr.drew | apply Gr.alloc)⟩
  · by_cases h2 : k1 = k2
    · subst h2
      obtain rfl : sLt n1 n2 = r := by simpa using hr
      clear hr h1
      go_enter Tryz.func21, Tryz.ntmps21
      go_wp2
      go_ret
      exact ⟨rfl, by repeat (first | exact Gr.refl _ | apply Gr.drewN | apply Gr.drew | apply Gr.alloc)⟩
    · obtain rfl : false = r := by simpa [h1, h2] using hr
      clear hr
      have e1 : decide (k1 < k2) = false := by simpa using h1
      have e2 : (k1 == k2) = false := by simpa using h2
      go_enter Tryz.func21, Tryz.ntmps21
      go_wp2
      go_ret
      exact ⟨rfl, by repeat (first | exact Gr.refl _ | apply Gr.drewN | apply Gr.drew | apply Gr.alloc)⟩
end Go.Proofs.YthbjpoiolmlpmaaGreatDoor
