/- Rows of the call's own: more lemmas. -/
import Derived.Test.YthbjpoiolmlpmaaGreatDoorKern
set_option linter.unusedVariables false
set_option linter.unusedSimpArgs false
namespace Go.Proofs.YthbjpoiolmlpmaaGreatDoor
open Go.RowKit
theorem own_ne {W : World} {base : Nat} {e T : TypeId} {size n : Nat} {v : Value} {xs c : List Value} {fb : Nat} (h : W.ownsRow base e size v n xs) (hf : HB W fb T c) (hT : e ≠ T) : ∀ y, v.ownBlock = some y → y ≠ fb := by
  intro y hy e1
  subst e1
  rcases h.2 with ⟨rfl, _⟩ | ⟨g, cap, cur, rfl, _, hg, _⟩
  · simp [Value.ownBlock] at hy
  · simp [Value.ownBlock] at hy
    subst hy
    unfold HB at hf
    rw [hf] at hg
    injection hg with hg
    injection hg with _ hg
    exact hT hg.symm
theorem own_notin' {W : World} {base : Nat} {e : TypeId} {size n : Nat} {v : Value} {xs : List Value} (h : W.ownsRow base e size v n xs) {T : TypeId} {c : List Value} {fb : Nat} (hf : HB W fb T c) (hT : e ≠ T) : fb ∉ v.ownBlock.toList := by
  intro hm
  simp at hm
  exact own_ne h hf hT fb hm rfl
theorem own_ne2 {w : World} {base base' size size' n n' : Nat} {e e' : TypeId} {v v' : Value} {xs xs' : List Value} (h : w.ownsRow base e size v n xs) (h' : w.ownsRow base' e' size' v' n' xs') (he : e ≠ e') : ∀ g, v'.ownBlock = some g → g ∉ v.ownBlock.toList := by
  intro g hg hm
  rcases h.2 with ⟨rfl, _⟩ | ⟨g1, cap, cur, rfl, _, hg1, _⟩
  · simp [Value.ownBlock] at hm
  · rcases h'.2 with ⟨rfl, _⟩ | ⟨g2, cap2, cur2, rfl, _, hg2, _⟩
    · simp [Value.ownBlock] at hg
    · simp [Value.ownBlock] at hm hg
      subst hm
      subst hg
      rw [hg1] at hg2
      injection hg2 with hg2
      injection hg2 with _ hg2
      exact he hg2
theorem own_set {w : World} {base n cap g size : Nat} {e : TypeId} {xs : List Value} (h : w.ownsRow base e size (.slice (some ⟨g, 0, none⟩) n cap) n xs) {j : Nat} (hj : j < xs.length) (u : Value) : (w.setCell ⟨g, j, none⟩ u).ownsRow base e size (.slice (some ⟨g, 0, none⟩) n cap) n (xs.set j u) := by
  obtain ⟨h1, h2⟩ := h
  rcases h2 with ⟨h2, _⟩ | ⟨g', cap', cur, e1, hb, hg, r1, r2, r3, r4⟩
  · cases h2
  · injection e1 with e1 e2 e3
    injection e1 with e1
    injection e1 with e1 _ _
    subst e1 e3
    have hB : HB w g e cur.toList := by unfold HB; rw [Array.toArray_toList]; exact hg
    have hs := hB.set j u
    refine ⟨by rw [List.length_set]; exact h1, .inr ⟨g, cap, (cur.toList.set j u).toArray, rfl, hb, hs, r1, r2, by simpa using r3, ?_⟩⟩
    show (cur.toList.set j u).take (n * size) = _
    rw [List.take_set, r4]
theorem own_HB {w : World} {base n cap g size : Nat} {e : TypeId} {xs : List Value} (h : w.ownsRow base e size (.slice (some ⟨g, 0, none⟩) n cap) n xs) : ∃ cs, HB w g e cs := by
  rcases h.2 with ⟨h1, _⟩ | ⟨g', cap', cur, h1, hb, hg, _⟩
  · cases h1
  · injection h1 with h1
    injection h1 with h1
    injection h1 with h1
    subst h1
    exact ⟨cur.toList, by unfold HB; rw [Array.toArray_toList]; exact hg⟩
theorem own_free {w : World} {base n cap g : Nat} {e : TypeId} {size : Nat} {xs : List Value} (h : w.ownsRow base e size (.slice (some ⟨g, 0, none⟩) n cap) n xs) (j : Nat) : w.frozen? ⟨g, j, none⟩ = false := by
  rcases h.2 with ⟨h1, _⟩ | ⟨g', cap', cur, h1, hb, hg, _⟩
  · cases h1
  · injection h1 with h1
    injection h1 with h1
    injection h1 with h1
    subst h1
    have hB : HB w g e cur.toList := by unfold HB; rw [Array.toArray_toList]; exact hg
    exact hB.free j
theorem own_rowB {α : Type} {enc : α → List Value} {k : Nat} (hk : ∀ x, (enc x).length = k) (h0 : 0 < k) {w : World} {base n : Nat} {e : TypeId} {v : Value} {xs : List α} (h : w.ownsRow base e k v n (xs.flatMap enc)) :
    RowK w (fun b => v.ownBlock = some b) enc k v xs := by
  obtain ⟨hn, A, c, rfl, h1, h2, h3, h4⟩ := own_row hk h0 h
  refine ⟨A, c, rfl, h1, h2, h3, fun i x hx => ?_⟩
  obtain ⟨b, o, r1, r2, r3⟩ := h4 i x hx
  refine ⟨b, o, r1, ?_, r3⟩
  obtain ⟨g, cap, cur, hv, _⟩ : ∃ g cap cur, Value.slice A xs.length c = .slice (some ⟨g, 0, none⟩) cap cur ∧ True := by
    rcases h.2 with ⟨hv, _⟩ | ⟨g, cap, cur, hv, _⟩
    · rw [r1] at hv
      cases hv
    · exact ⟨g, _, _, hv, trivial⟩
  rw [hv]
  injection hv with hv _ _
  rw [r1] at hv
  injection hv with hv
  injection hv with hv _ _
  subst hv
  rfl
theorem row_news {α : Type} {w : World} {F : Nat → Prop} (enc : α → List Value) {k : Nat} (hk : ∀ x, (enc x).length = k) (h0 : 0 < k) {A : Option Addr} {n c : Nat} {xs : List α} (h : RowK w F enc k (.slice A n c) xs) :
    ∀ j u, (xs.flatMap enc)[j]? = some u → ∃ b o, A = some ⟨b, o, none⟩ ∧ w.cell? ⟨b, o + j, none⟩ = some u := by
  intro j u hj
  have hlt : j < (xs.flatMap enc).length := (List.getElem?_eq_some_iff.1 hj).1
  rw [flat_length enc k hk] at hlt
  have hi : j / k < xs.length := Nat.div_lt_of_lt_mul (by rw [Nat.mul_comm]; exact hlt)
  have hr : j % k < (enc xs[j / k]).length := by rw [hk]; exact Nat.mod_lt _ h0
  have hx : xs[j / k]? = some xs[j / k] := List.getElem?_eq_getElem hi
  have hu := flatMap_get enc hk xs (j / k) _ hx (j % k) _ (List.getElem?_eq_getElem hr)
  rw [Nat.mul_comm, Nat.div_add_mod, hj] at hu
  obtain ⟨b, o, hA, _, hc⟩ := h.at_ hx
  have h1 := hc (j % k) _ (List.getElem?_eq_getElem hr)
  rw [Nat.add_assoc, Nat.mul_comm, Nat.div_add_mod, ← hu] at h1
  exact ⟨b, o, hA, h1⟩
end Go.Proofs.YthbjpoiolmlpmaaGreatDoor
