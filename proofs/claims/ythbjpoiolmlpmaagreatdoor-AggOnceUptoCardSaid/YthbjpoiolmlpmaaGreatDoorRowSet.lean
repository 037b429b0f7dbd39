/- A row of the call's own: an element of nine cells written anew. -/
import Derived.Test.YthbjpoiolmlpmaaGreatDoorToldC
import Derived.Test.YthbjpoiolmlpmaaGreatDoorOwnL
set_option linter.unusedVariables false
set_option linter.unusedSimpArgs false
namespace Go.Proofs.YthbjpoiolmlpmaaGreatDoor
open Go.RowKit
def putAt (W : World) (b o : Nat) : List Value → World
  | [] => W
  | v :: vs => putAt (W.setCell ⟨b, o, none⟩ v) b (o + 1) vs
theorem putAt_upd {S : List Nat} {a : World} {b : Nat} (hb : b ∈ S ∨ a.heap.size ≤ b) : ∀ (vs : List Value) (W : World) (o : Nat), Upd S a W → Upd S a (putAt W b o vs)
  | [], W, o, h => h
  | v :: vs, W, o, h => putAt_upd hb vs _ _ (h.setCell (p := ⟨b, o, none⟩) hb v)
def setAt (xs : List Value) (o : Nat) : List Value → List Value
  | [] => xs
  | v :: vs => setAt (xs.set o v) (o + 1) vs
theorem setAt_len : ∀ (vs xs : List Value) (o : Nat), (setAt xs o vs).length = xs.length
  | [], xs, o => rfl
  | v :: vs, xs, o => by rw [setAt, setAt_len, List.length_set]
theorem setAt_mid : ∀ (vs old a c : List Value), old.length = vs.length → setAt (a ++ old ++ c) a.length vs = a ++ vs ++ c
  | [], old, a, c, h => by
    obtain rfl := List.eq_nil_of_length_eq_zero h
    rfl
  | v :: vs, [], a, c, h => by simp at h
  | v :: vs, x :: old, a, c, h => by
    rw [setAt]
    have e : (a ++ x :: old ++ c).set a.length v = (a ++ [v]) ++ old ++ c := by simp
    have l : a.length + 1 = (a ++ [v]).length := by simp
    rw [e, l, setAt_mid vs old (a ++ [v]) c (by simpa using h)]
    simp
theorem own_putAt {base n cap g size : Nat} {e : TypeId} : ∀ (vs : List Value) (w : World) (o : Nat) (xs : List Value), w.ownsRow base e size (.slice (some ⟨g, 0, none⟩) n cap) n xs → o + vs.length ≤ xs.length → (putAt w g o vs).ownsRow base e size (.slice (some ⟨g, 0, none⟩) n cap) n (setAt xs o vs)
  | [], w, o, xs, h, _ => h
  | v :: vs, w, o, xs, h, hl => own_putAt vs _ _ _ (own_set h (j := o) (by simp at hl; omega) v) (by rw [List.length_set]; simp at hl; omega)
theorem flat_set {α : Type} {enc : α → List Value} {k : Nat} (hk : ∀ x, (enc x).length = k) (rows : List α) (i : Nat) (p : α) (hi : i < rows.length) : setAt (rows.flatMap enc) (i * k) (enc p) = (rows.set i p).flatMap enc := by
  have e : rows = rows.take i ++ rows[i] :: rows.drop (i + 1) := by simp
  have e2 : rows.set i p = rows.take i ++ p :: rows.drop (i + 1) := by rw [List.set_eq_take_append_cons_drop, if_pos hi]
  rw [e2]
  conv => lhs; rw [e]
  rw [List.flatMap_append, List.flatMap_cons, List.flatMap_append, List.flatMap_cons]
  have l : i * k = ((rows.take i).flatMap enc).length := by
    rw [flat_length enc k hk, List.length_take, Nat.min_eq_left (by omega)]
  rw [l, ← List.append_assoc, setAt_mid _ _ _ _ (by rw [hk, hk]), List.append_assoc]
/-- Element i of the row written anew. -/
theorem own_setRow {α : Type} {enc : α → List Value} {k : Nat} (hk : ∀ x, (enc x).length = k) {w : World} {base n cap g : Nat} {e : TypeId} {rows : List α} (h : w.ownsRow base e k (.slice (some ⟨g, 0, none⟩) n cap) n (rows.flatMap enc)) (i : Nat) (p : α) (hi : i < rows.length) :
    (putAt w g (i * k) (enc p)).ownsRow base e k (.slice (some ⟨g, 0, none⟩) n cap) n ((rows.set i p).flatMap enc) := by
  rw [← flat_set hk rows i p hi]
  refine own_putAt _ _ _ _ h ?_
  rw [hk, flat_length enc k hk]
  have : (i + 1) * k ≤ rows.length * k := Nat.mul_le_mul_right _ hi
  rw [Nat.succ_mul] at this
  exact this
end Go.Proofs.YthbjpoiolmlpmaaGreatDoor
