/- A region that draws its order and ends in two stores, each of which may come first. -/
import Derived.Test.YthbjpoiolmlpmaaGreatDoorKern
import Derived.Sort.Row
set_option linter.unusedVariables false
set_option linter.unusedSimpArgs false
namespace Go.Proofs.YthbjpoiolmlpmaaGreatDoor
open Go.RowKit Go.Sort
theorem setCell_comm (w : World) {b o b' o' : Nat} (h : b ≠ b' ∨ o ≠ o') (u v : Value) : (w.setCell ⟨b, o, none⟩ u).setCell ⟨b', o', none⟩ v = (w.setCell ⟨b', o', none⟩ v).setCell ⟨b, o, none⟩ u := by
  simp only [setCell_eq]
  by_cases hb : b = b'
  · subst hb
    rw [mapBlock_mapBlock, mapBlock_mapBlock]
    congr 1
    funext c
    have ho : o ≠ o' := by rcases h with h | h
                           · exact absurd rfl h
                           · exact h
    exact Array.setIfInBounds_comm u v ho
  · unfold mapBlock
    congr 1
    apply Array.ext_getElem?
    intro k
    simp only [Array.getElem?_modify]
    by_cases h1 : b' = k
    · subst h1
      simp [hb]
    · by_cases h2 : b = k
      · subst h2; simp [h1]
      · simp [h1, h2]
section
variable {P : Program} {l : List Oper} {Q : Exit → Act → World → Prop} {C : World → Prop}
/-- The last two operations: two stores, each of which may come first. -/
theorem mix_pair {z : Nat} {listed : Array Bool} {a : Act} {w : World} (i j : Nat) (p q : Nat × Nat) (u v : Value) (hpq : p.1 ≠ q.1 ∨ p.2 ≠ q.2) (hiz : decide (i < z) = true) (hjz : decide (j < z) = true) (hr : decide (Region.ready .any l.toArray listed = [i, j]) = true)
    (hri : decide (Region.ready .any l.toArray (listed.setIfInBounds i true) = [j]) = true) (hrj : decide (Region.ready .any l.toArray (listed.setIfInBounds j true) = [i]) = true)
    (he : decide (Region.ready .any l.toArray ((listed.setIfInBounds i true).setIfInBounds j true) = []) = true) (he' : decide (Region.ready .any l.toArray ((listed.setIfInBounds j true).setIfInBounds i true) = []) = true)
    {o o' : Oper} (ho : maskL (List.replicate i false ++ [true]) l = [o]) (ho' : maskL (List.replicate j false ++ [true]) l = [o'])
    (hC1 : C (w.setCell ⟨p.1, p.2, none⟩ u)) (hC2 : C (w.setCell ⟨q.1, q.2, none⟩ v)) (hC : C ((w.setCell ⟨p.1, p.2, none⟩ u).setCell ⟨q.1, q.2, none⟩ v))
    (h1 : ∀ (K : Act → World → Prop) (QF : Exit → Act → World → Prop), K a (w.setCell ⟨p.1, p.2, none⟩ u) → wpList P l.toArray (Exit.then K QF) [o] a w)
    (h2 : ∀ (K : Act → World → Prop) (QF : Exit → Act → World → Prop), K a ((w.setCell ⟨p.1, p.2, none⟩ u).setCell ⟨q.1, q.2, none⟩ v) → wpList P l.toArray (Exit.then K QF) [o'] a (w.setCell ⟨p.1, p.2, none⟩ u))
    (h3 : ∀ (K : Act → World → Prop) (QF : Exit → Act → World → Prop), K a (w.setCell ⟨q.1, q.2, none⟩ v) → wpList P l.toArray (Exit.then K QF) [o'] a w)
    (h4 : ∀ (K : Act → World → Prop) (QF : Exit → Act → World → Prop), K a ((w.setCell ⟨q.1, q.2, none⟩ v).setCell ⟨p.1, p.2, none⟩ u) → wpList P l.toArray (Exit.then K QF) [o] a (w.setCell ⟨q.1, q.2, none⟩ v))
    (hQ : Q .normal a ((w.setCell ⟨p.1, p.2, none⟩ u).setCell ⟨q.1, q.2, none⟩ v)) : MixAt P l.toArray C z Q 2 listed a w := by
  refine mix_two i j hiz hjz hr ho ho' (fun K QF hK => h1 K QF (hK _ _ hC1 ?_)) (fun K QF hK => h3 K QF (hK _ _ hC2 ?_))
  · exact mix_one j hjz hri ho' (fun K QF hK => h2 K QF (hK _ _ hC (mix_end he hQ)))
  · refine mix_one i hiz hrj ho (fun K QF hK => h4 K QF (hK _ _ ?_ (mix_end he' ?_)))
    · rw [← setCell_comm w hpq]; exact hC
    · rw [← setCell_comm w hpq]; exact hQ
end
end Go.Proofs.YthbjpoiolmlpmaaGreatDoor
