/- A slice that is read, its elements of k cells each, as a plain list ('RowK'); a row of the call's own reads so. -/
import Derived.Test.YtdjpcinibgbglaaApp
set_option linter.unusedVariables false
set_option linter.unusedSimpArgs false
namespace Go.Proofs.Ytdjpcinibgbglaa
open Go.RowKit

def RowK {α : Type} (w : World) (F : Nat → Prop) (enc : α → List Value) (k : Nat) (v : Value) (xs : List α) : Prop :=
  ∃ A c, v = .slice A xs.length c ∧ xs.length ≤ c ∧ c ≤ maxLen ∧ (A = none → c = 0) ∧
    ∀ (i : Nat) (x : α), xs[i]? = some x → ∃ b o, A = some ⟨b, o, none⟩ ∧ F b ∧ ∀ j u, (enc x)[j]? = some u → w.cell? ⟨b, o + i * k + j, none⟩ = some u
theorem RowK.upd {α : Type} {w w' : World} {F : Nat → Prop} {enc : α → List Value} {k : Nat} {v : Value} {xs : List α} (h : RowK w F enc k v xs) {S : List Nat} (hU : Upd S w w') (hF : ∀ b, b ∈ S → ¬ F b) : RowK w' F enc k v xs := by
  obtain ⟨A, c, h1, h2, h3, h4, h5⟩ := h
  refine ⟨A, c, h1, h2, h3, h4, fun i x hx => ?_⟩
  obtain ⟨b, o, r1, r2, r3⟩ := h5 i x hx
  exact ⟨b, o, r1, r2, fun j u hj => hU.cell (r3 j u hj) (fun hm => hF _ hm r2)⟩
theorem RowK.upd0 {α : Type} {w w' : World} {F : Nat → Prop} {enc : α → List Value} {k : Nat} {v : Value} {xs : List α} (h : RowK w F enc k v xs) (hU : Upd [] w w') : RowK w' F enc k v xs := h.upd hU (fun _ h => by cases h)
theorem RowK.mono {α : Type} {w : World} {F G : Nat → Prop} {enc : α → List Value} {k : Nat} {v : Value} {xs : List α} (h : RowK w F enc k v xs) (hFG : ∀ b, F b → G b) : RowK w G enc k v xs := by
  obtain ⟨A, c, h1, h2, h3, h4, h5⟩ := h
  refine ⟨A, c, h1, h2, h3, h4, fun i x hx => ?_⟩
  obtain ⟨b, o, r1, r2, r3⟩ := h5 i x hx
  exact ⟨b, o, r1, hFG _ r2, r3⟩
theorem RowK.shape {α : Type} {w : World} {F : Nat → Prop} {enc : α → List Value} {k : Nat} {v : Value} {xs : List α} (h : RowK w F enc k v xs) : ∃ A c, v = .slice A xs.length c ∧ xs.length ≤ c ∧ c ≤ maxLen ∧ (A = none → c = 0) := by
  obtain ⟨A, c, h1, h2, h3, h4, _⟩ := h
  exact ⟨A, c, h1, h2, h3, h4⟩
/-- Element i: where it lies. -/
theorem RowK.at_ {α : Type} {w : World} {F : Nat → Prop} {enc : α → List Value} {k : Nat} {A : Option Addr} {n c : Nat} {xs : List α} (h : RowK w F enc k (.slice A n c) xs) {i : Nat} {x : α} (hx : xs[i]? = some x) :
    ∃ b o, A = some ⟨b, o, none⟩ ∧ F b ∧ ∀ j u, (enc x)[j]? = some u → w.cell? ⟨b, o + i * k + j, none⟩ = some u := by
  obtain ⟨A', c', h1, _, _, _, h5⟩ := h
  injection h1 with h1 h2 h3
  subst h1
  exact h5 i x hx
theorem RowK.len {α : Type} {w : World} {F : Nat → Prop} {enc : α → List Value} {k : Nat} {A : Option Addr} {n c : Nat} {xs : List α} (h : RowK w F enc k (.slice A n c) xs) : n = xs.length := by
  obtain ⟨A', c', h1, _⟩ := h
  injection h1
theorem RowK.nil {α : Type} (w : World) (F : Nat → Prop) (enc : α → List Value) (k : Nat) : RowK w F enc k (.slice none 0 0) [] :=
  ⟨none, 0, rfl, Nat.le_refl _, Nat.zero_le _, fun _ => rfl, fun i x hx => by simp at hx⟩

theorem flatMap_get {α : Type} {k : Nat} (enc : α → List Value) (hk : ∀ x, (enc x).length = k) : ∀ (xs : List α) (i : Nat) (x : α), xs[i]? = some x → ∀ j u, (enc x)[j]? = some u → (xs.flatMap enc)[i * k + j]? = some u
  | [], i, x, h => by simp at h
  | y :: xs, 0, x, h => by
    simp at h
    subst h
    intro j u hj
    have hj' := (List.getElem?_eq_some_iff.1 hj).1
    rw [List.flatMap_cons, Nat.zero_mul, Nat.zero_add, List.getElem?_append_left hj', hj]
  | y :: xs, i + 1, x, h => by
    intro j u hj
    rw [List.flatMap_cons, List.getElem?_append_right (by rw [hk, Nat.succ_mul]; omega), hk, show (i + 1) * k + j - k = i * k + j by rw [Nat.succ_mul]; omega]
    exact flatMap_get enc hk xs i x (by simpa using h) j u hj

theorem own_row {α : Type} {enc : α → List Value} {k : Nat} (hk : ∀ x, (enc x).length = k) (h0 : 0 < k) {w : World} {base n : Nat} {e : TypeId} {v : Value} {xs : List α} (h : w.ownsRow base e k v n (xs.flatMap enc)) :
    n = xs.length ∧ RowK w (base ≤ ·) enc k v xs := by
  have hl : xs.length = n := by
    have := h.1
    rw [flat_length enc k hk] at this
    exact Nat.eq_of_mul_eq_mul_right h0 this
  refine ⟨hl.symm, ?_⟩
  obtain ⟨A, c, rfl, h1, h2, h3⟩ := own_shape h
  refine ⟨A, c, by rw [hl], by omega, h2, h3, fun i x hx => ?_⟩
  have hlx : (enc x).length = k := hk x
  obtain ⟨b, hb, _, hbb⟩ := own_cell h (i * k + 0) _ (flatMap_get enc hk xs i x hx 0 ((enc x)[0]'(by omega)) (List.getElem?_eq_getElem _))
  refine ⟨b, 0, hb, hbb, fun j u hj => ?_⟩
  obtain ⟨b1, hb1, hc1, _⟩ := own_cell h (i * k + j) u (flatMap_get enc hk xs i x hx j u hj)
  rw [hb] at hb1
  injection hb1 with hb1
  injection hb1 with hb1
  subst hb1
  rw [Nat.zero_add]
  exact hc1

/-- Two rows of the call's own that do not share a block. -/
def Apart (v v' : Value) : Prop := ∀ g, v.ownBlock = some g → v'.ownBlock ≠ some g
theorem Apart.nilL (v : Value) : Apart (.slice none 0 0) v := fun g h => by simp [Value.ownBlock] at h
theorem Apart.nilR (v : Value) : Apart v (.slice none 0 0) := fun g _ h => by simp [Value.ownBlock] at h
theorem Apart.symm {v v' : Value} (h : Apart v v') : Apart v' v := fun g h1 h2 => h g h2 h1
/-- v has been appended to (it stays, or lies in new memory): it is still apart from a row that stood. -/
theorem Apart.grown {v v1 v' : Value} {n : Nat} (h : Apart v v') (hat : v1.ownBlock = v.ownBlock ∨ ∃ b, v1.ownBlock = some b ∧ n ≤ b) (hlt : ∀ g, v'.ownBlock = some g → g < n) : Apart v1 v' := by
  intro g h1 h2
  rcases hat with hat | ⟨b, hb, hn⟩
  · exact h g (hat ▸ h1) h2
  · rw [hb] at h1
    injection h1 with h1
    have := hlt g h2
    omega
theorem Apart.upd {v v' : Value} (h : Apart v v') : ∀ g, v'.ownBlock = some g → g ∉ v.ownBlock.toList := by
  intro g h1 h2
  simp at h2
  exact h g h2 h1

/-- Behind an append onto v (at W, which has only grown from wi): what is kept. -/
theorem app_upd {w wi W w1 : World} {v : Value} (hU : Upd [] w wi) (hW : Upd [] wi W) (h1 : Upd v.ownBlock.toList W w1) (hf : ∀ g, v.ownBlock = some g → w.heap.size ≤ g) : Upd [] w w1 :=
  (hU.then hW).trans h1 (fun _ h => h) (fun i hi => .inr (hf i (by simpa using hi)))
theorem app_own {wi W w1 : World} {v vo : Value} {base : Nat} {e : TypeId} {size n : Nat} {xs : List Value} (h : wi.ownsRow base e size vo n xs) (hW : Upd [] wi W) (h1 : Upd v.ownBlock.toList W w1) (ha : Apart v vo) : w1.ownsRow base e size vo n xs :=
  own_upd (own_upd h hW (fun _ _ => by simp)) h1 ha.upd
theorem RowK.at1 {α : Type} {f : α → Value} {w : World} {F : Nat → Prop} {A : Option Addr} {n c : Nat} {xs : List α} (h : RowK w F (fun x => [f x]) 1 (.slice A n c) xs) {i : Nat} {x : α} (hx : xs[i]? = some x) :
    ∃ b o, A = some ⟨b, o, none⟩ ∧ F b ∧ w.cell? ⟨b, o + i, none⟩ = some (f x) := by
  obtain ⟨b, o, h1, h2, h3⟩ := h.at_ hx
  exact ⟨b, o, h1, h2, by simpa using h3 0 _ rfl⟩
end Go.Proofs.Ytdjpcinibgbglaa
