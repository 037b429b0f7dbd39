/- Close, as plain data. -/
import Derived.Test.YthbjpoiolmlpmaaGreatDoorAgOk
set_option linter.unusedVariables false
set_option linter.unusedSimpArgs false
namespace Go.Proofs.YthbjpoiolmlpmaaGreatDoor
theorem Tells.snoc {E : List KE} {g g' : GV} {ids : List Int} {ws : List (Int × List TL)} (h : Tells E g ids ws g') : ∀ {id : Int} {T : List TL}, Told E g' id T → Tells E g (ids ++ [id]) (ws ++ [(id, T)]) (gNext E g' id) := by
  induction h with
  | nil g => intro id T k; exact .cons k (.nil _)
  | cons h t ih => intro id T k; exact .cons h (ih k)
theorem perm_lift {α β : Type} (f : α → β) {l' m : List β} (h : l'.Perm m) : ∀ {l : List α}, m = l.map f → ∃ l2 : List α, l2.Perm l ∧ l2.map f = l' := by
  induction h with
  | nil =>
    intro l e
    obtain rfl : l = [] := by simpa using e.symm
    exact ⟨[], .refl _, rfl⟩
  | cons x h ih =>
    intro l e
    cases l with
    | nil => simp at e
    | cons a l =>
      rw [List.map_cons] at e
      injection e with e1 e2
      obtain ⟨l2, k1, k2⟩ := ih e2
      exact ⟨a :: l2, k1.cons a, by rw [List.map_cons, k2, e1]⟩
  | swap x y l0 =>
    intro l e
    match l, e with
    | a :: b :: l, e =>
      simp only [List.map_cons, List.cons.injEq] at e
      obtain ⟨e1, e2, e3⟩ := e
      exact ⟨b :: a :: l, List.Perm.swap _ _ _, by simp [e1, e2, e3]⟩
    | [], e => simp at e
    | [a], e => simp at e
  | trans h1 h2 ih1 ih2 =>
    intro l e
    obtain ⟨l2, k1, k2⟩ := ih2 e
    obtain ⟨l3, k3, k4⟩ := ih1 k2.symm
    exact ⟨l3, k3.trans k1, k4⟩
/-- A window's tallies out of what its takers told. -/
theorem MeansT.told {E : List KE} {id : Int} {ts : List (Met × TK)} (h : MeansT E id ts) {g : GV} {T : List TL} (hp : T.Perm (ts.map fun q => q.2.tl q.1 ((g q.1.2).getD 0))) (hr : (T.map TL.met).Pairwise fun a b => ltM a b = true) : Told E g id T := by
  refine ⟨hr, fun m => ?_, fun t ht => ?_⟩
  · rw [← h.mets m, (hp.map TL.met).mem_iff, List.map_map]
    rfl
  · obtain ⟨q, hq, rfl⟩ := List.mem_map.1 (hp.mem_iff.1 ht)
    show _ = tlOf E g id q.1
    unfold tlOf
    rw [h.tk q hq]
/-- The gauges, by the takers. -/
theorem MeansT.next {E : List KE} {id : Int} {ts : List (Met × TK)} (h : MeansT E id ts) (g : GV) (x : ByteArray) : gNext E g id x = match ts.find? fun q => decide (q.1 = (2, x)) with | some q => some (q.2.sum ((g x).getD 0)) | none => g x := by
  unfold gNext
  cases hf : ts.find? fun q => decide (q.1 = (2, x)) with
  | none =>
    rw [if_neg]
    intro hc
    have hm := (h.mets (2, x)).2 (List.any_eq_true.1 hc)
    obtain ⟨q, hq, e⟩ := List.mem_map.1 hm
    have := List.find?_eq_none.1 hf q hq
    simp [e] at this
  | some q =>
    have hq := List.mem_of_find?_eq_some hf
    have e : q.1 = (2, x) := by simpa using List.find?_some hf
    rw [if_pos (List.any_eq_true.2 ((h.mets _).1 (by rw [← e]; exact List.mem_map_of_mem hq)))]
    show some _ = some (q.2.sum _)
    rw [h.tk q hq, e]
theorem idsTo_take {E : List KE} {id : Int} {l : List Int} {j : Nat} (hs : l.Pairwise (· < ·)) (hm : ∀ i, i ∈ l ↔ ∃ p ∈ E, p.1 = i) (h1 : ∀ i ∈ l.take j, i ≤ id) (h2 : ∀ i ∈ l.drop j, id < i) : IdsTo E id (l.take j) := by
  refine ⟨List.Pairwise.sublist (List.take_sublist j l) hs, fun i => ?_⟩
  constructor
  · intro hi
    exact ⟨h1 i hi, (hm i).1 (List.mem_of_mem_take hi)⟩
  · rintro ⟨a, b⟩
    have := (hm i).2 b
    rw [← List.take_append_drop j l] at this
    rcases List.mem_append.1 this with k | k
    · exact k
    · have := h2 i k
      omega
end Go.Proofs.YthbjpoiolmlpmaaGreatDoor
