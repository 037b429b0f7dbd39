/- A row of the call's own reads as data. -/
import Derived.Test.YthbjpoiolmlpmaaGreatDoorKern
import Derived.Test.YthbjpoiolmlpmaaGreatDoorRd
namespace Go.Proofs.YthbjpoiolmlpmaaGreatDoor
open Go.RowKit

theorem flatten_get {k : Nat} : ∀ (css : List (List Value)) (i : Nat) (c : List Value), (∀ c ∈ css, c.length = k) → css[i]? = some c → ∀ j u, c[j]? = some u → css.flatten[i * k + j]? = some u
  | [], i, c, _, h => by simp at h
  | d :: css, 0, c, hk, h => by
    simp at h
    subst h
    intro j u hj
    have hj' := (List.getElem?_eq_some_iff.1 hj).1
    rw [List.flatten_cons, Nat.zero_mul, Nat.zero_add, List.getElem?_append_left hj', hj]
  | d :: css, i + 1, c, hk, h => by
    intro j u hj
    have hd : d.length = k := hk d (by simp)
    rw [List.flatten_cons, List.getElem?_append_right (by rw [hd, Nat.succ_mul]; omega), hd, show (i + 1) * k + j - k = i * k + j by rw [Nat.succ_mul]; omega]
    exact flatten_get css i c (fun c hc => hk c (by simp [hc])) (by simpa using h) j u hj

theorem own_rd {g : GT} {w : World} {F : Nat → Prop} {base n : Nat} {e : TypeId} {v : Value} {css : List (List Value)} {xs : List g.den} (h : w.ownsRow base e g.sz v n css.flatten) (hz : 0 < g.sz) (hl : css.length = xs.length)
    (hx : ∀ (i : Nat) (c : List Value) (x : g.den), css[i]? = some c → xs[i]? = some x → Rd w F g c x) (hF : ∀ b, base ≤ b → F b) : Rd w F (.slice g) [v] xs := by
  have hk : ∀ c ∈ css, c.length = g.sz := fun c hc => by
    obtain ⟨i, hi, he⟩ := List.mem_iff_getElem.1 hc
    have hi' : i < xs.length := by omega
    exact Rd.length g c _ (hx i c xs[i] (by rw [List.getElem?_eq_getElem hi, he]) (List.getElem?_eq_getElem hi'))
  have hfl : ∀ css : List (List Value), (∀ c ∈ css, c.length = g.sz) → css.flatten.length = css.length * g.sz := by
    intro css
    induction css with
    | nil => intro _; simp
    | cons c css ih => intro hk; rw [List.flatten_cons, List.length_append, hk c (by simp), ih (fun c hc => hk c (by simp [hc])), List.length_cons, Nat.succ_mul]; omega
  have hn : xs.length = n := by
    have h1 := h.1
    rw [hfl css hk] at h1
    exact hl ▸ Nat.eq_of_mul_eq_mul_right hz h1
  obtain ⟨A, c, rfl, h1, h2, h3⟩ := own_shape h
  refine ⟨A, c, by rw [hn], by omega, h2, h3, fun i x hi => ?_⟩
  have hi' : i < css.length := by have := (List.getElem?_eq_some_iff.1 hi).1; omega
  have hc := List.getElem?_eq_getElem hi'
  have hcl := hk _ (List.mem_of_getElem? hc)
  obtain ⟨b0, hb0, _, hbb⟩ := own_cell h (i * g.sz + 0) _ (flatten_get css i _ hk hc 0 ((css[i])[0]'(by omega)) (List.getElem?_eq_getElem _))
  refine ⟨b0, 0, css[i], hb0, hF _ hbb, hcl, fun j u hj => ?_, hx i _ x hc hi⟩
  obtain ⟨b1, hb1, hc1, _⟩ := own_cell h (i * g.sz + j) u (flatten_get css i _ hk hc j u hj)
  rw [hb0] at hb1
  injection hb1 with hb1
  injection hb1 with hb1
  subst hb1
  rw [Nat.zero_add]
  exact hc1

/-- What a slice that reads as xs holds, cell by cell. -/
theorem rd_cells {g : GT} {w : World} {F : Nat → Prop} {A : Option Addr} {n c : Nat} {xs : List g.den} (h : Rd w F (.slice g) [.slice A n c] xs) :
    n = xs.length ∧ n ≤ c ∧ c ≤ maxLen ∧ (A = none → c = 0) ∧ ∃ css : List (List Value), css.length = n ∧ (∀ (i : Nat) (cs : List Value) (x : g.den), css[i]? = some cs → xs[i]? = some x → Rd w F g cs x) ∧
      (∀ cs ∈ css, cs.length = g.sz) ∧ (∀ i cs, css[i]? = some cs → ∃ b o, A = some ⟨b, o, none⟩ ∧ F b ∧ ∀ j u, cs[j]? = some u → w.cell? ⟨b, o + i * g.sz + j, none⟩ = some u) := by
  obtain ⟨A', c', he, h1, h2, h3, h4⟩ := h
  simp only [List.cons.injEq, and_true, Value.slice.injEq] at he
  obtain ⟨rfl, rfl, rfl⟩ := he
  obtain ⟨css, hl, hc⟩ := list_of (p := fun i (cs : List Value) => ∀ x, xs[i]? = some x → ∃ b o, A = some ⟨b, o, none⟩ ∧ F b ∧ cs.length = g.sz ∧ (∀ j v, cs[j]? = some v → w.cell? ⟨b, o + i * g.sz + j, none⟩ = some v) ∧ Rd w F g cs x) xs.length (fun i hi => by
    obtain ⟨b, o, ecs, r1, r2, r3, r4, r5⟩ := h4 i _ (List.getElem?_eq_getElem hi)
    refine ⟨ecs, fun x hx => ?_⟩
    rw [List.getElem?_eq_getElem hi] at hx
    injection hx with hx
    subst hx
    exact ⟨b, o, r1, r2, r3, r4, r5⟩)
  have get : ∀ i cs, css[i]? = some cs → ∃ x, xs[i]? = some x := fun i cs hi => by
    have := (List.getElem?_eq_some_iff.1 hi).1
    exact ⟨_, List.getElem?_eq_getElem (by omega)⟩
  refine ⟨rfl, h1, h2, h3, css, hl, fun i cs x hi hx => ?_, fun cs hm => ?_, fun i cs hi => ?_⟩
  · obtain ⟨_, _, _, _, _, _, r⟩ := hc i cs hi x hx
    exact r
  · obtain ⟨i, hi, he⟩ := List.mem_iff_getElem.1 hm
    have hi2 : css[i]? = some cs := by rw [List.getElem?_eq_getElem hi, he]
    obtain ⟨x, hx⟩ := get i cs hi2
    obtain ⟨_, _, _, _, r, _, _⟩ := hc i cs hi2 x hx
    exact r
  · obtain ⟨x, hx⟩ := get i cs hi
    obtain ⟨b, o, r1, r2, _, r4, _⟩ := hc i cs hi x hx
    exact ⟨b, o, r1, r2, r4⟩
end Go.Proofs.YthbjpoiolmlpmaaGreatDoor
