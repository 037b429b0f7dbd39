/- A drawn region by an invariant over what has been done (rel.py's lemmas); a block that holds a wide number. -/
import Derived.Test.YthbjpoiolmlpmaaGreatDoorWide
set_option linter.unusedVariables false
set_option linter.unusedSimpArgs false
namespace Go.Proofs.YthbjpoiolmlpmaaGreatDoor
open Go.RowKit
/-- Each operation below n is waited for by a later one (n among them). -/
def ancB (ops : Array Oper) (n : Nat) : Bool := (List.range n).all fun i => (List.range (n + 1)).any fun j => decide (i < j) && ((ops[j]?).map fun o => o.after.any fun e => Region.binds .any e && e.on == i).getD false
theorem anc_of {ops : Array Oper} {n : Nat} (h : ancB ops n = true) {i : Nat} (hi : i < n) : ∃ j o e, i < j ∧ j ≤ n ∧ ops[j]? = some o ∧ e ∈ o.after ∧ Region.binds .any e = true ∧ e.on = i := by
  unfold ancB at h
  rw [List.all_eq_true] at h
  have h1 := h i (List.mem_range.2 hi)
  rw [List.any_eq_true] at h1
  obtain ⟨j, hj, h2⟩ := h1
  rw [List.mem_range] at hj
  simp only [Bool.and_eq_true, decide_eq_true_eq] at h2
  cases ho : ops[j]? with
  | none => rw [ho] at h2; simp at h2
  | some o =>
    rw [ho] at h2
    simp only [Option.map_some, Option.getD_some] at h2
    obtain ⟨h3, h4⟩ := h2
    rw [Array.any_eq_true] at h4
    obtain ⟨k, hk, h5⟩ := h4
    simp only [Bool.and_eq_true, beq_iff_eq] at h5
    exact ⟨j, o, o.after[k], h3, by omega, ho, Array.getElem_mem hk, h5.1, h5.2⟩
section
variable {P : Program} {ops : Array Oper} {Q : Exit → Act → World → Prop}
def ClosedD (ops : Array Oper) (D : Nat → Bool) : Prop := ∀ i o, ops[i]? = some o → D i = true → ∀ e ∈ o.after, Region.binds .any e = true → D e.on = true
theorem closed_all {n : Nat} (hanc : ancB ops n = true) {D : Nat → Bool} (hc : ClosedD ops D) (hn : ∀ o, ops[n]? = some o → ∀ e ∈ o.after, Region.binds .any e = true → D e.on = true) : ∀ i, i < n → D i = true := by
  have key : ∀ d i, n - i ≤ d → i < n → D i = true := by
    intro d
    induction d with
    | zero => intro i h1 h2; omega
    | succ d ih =>
      intro i h1 h2
      obtain ⟨j, o, e, hj, hjn, ho, he, hb, hon⟩ := anc_of hanc h2
      rw [← hon]
      by_cases hjn2 : j = n
      · subst hjn2
        exact hn o ho e he hb
      · exact hc j o ho (ih j (by omega) (by omega)) e he hb
  exact fun i hi => key (n - i) i (Nat.le_refl _) hi
theorem wpOp_via {J : Act → World → Prop} {a : Act} {w : World} {i : Nat} {o : Oper} (ho : ops[i]? = some o) (h : ∀ K : Act → World → Prop, (∀ a w, J a w → K a w) → wpList P ops (Exit.then K Q) [o] a w) : wpOp P ops Q i J a w := wpOp_of_list ho (h J fun _ _ h => h)
end
theorem region_rel2 {P : Program} {ops : Array Oper} {Q : Exit → Act → World → Prop} {id : Nat} {a : Act} {w : World} (n : Nat) (hm : P.follows .mixedOrders = true) (hlow : lowB ops = true) (hsz : ops.size = n + 1) (hanc : ancB ops n = true) (I : (Nat → Bool) → Act → World → Prop) (h0 : I (fun _ => false) a w.drew)
    (hstep : ∀ D a w i o, I D a w → i < n → ops[i]? = some o → D i = false → (∀ e ∈ o.after, Region.binds .any e = true → D e.on = true) → ClosedD ops D → wpOp P ops Q i (I (fun j => D j || j == i)) a w)
    (hlast : ∀ D a w o, I D a w → (∀ i, i < n → D i = true) → ops[n]? = some o → wpOp P ops Q n (fun a w => Q .normal a w) a w) : (Code.region id ops true).wp P Q a w := by
  refine region_inv hm hlow (fun D a w => ClosedD ops D ∧ (D n = false → I D a w) ∧ (D n = true → Q .normal a w)) ?_ ?_ ?_
  · exact ⟨fun i o _ h => (by simp at h), fun _ => h0, fun h => (by simp at h)⟩
  · rintro D a w i o ⟨hc, h1, h2⟩ ho hD hdep
    have hc' : ClosedD ops (fun j => D j || j == i) := by
      intro k p hp hk e he hb
      simp only [Bool.or_eq_true, beq_iff_eq] at hk ⊢
      rcases hk with hk | rfl
      · exact .inl (hc k p hp hk e he hb)
      · rw [ho] at hp
        injection hp with hp
        subst hp
        exact .inl (hdep e he hb)
    by_cases hi : i = n
    · subst hi
      have hall := closed_all hanc hc (fun p hp e he hb => by rw [ho] at hp; injection hp with hp; subst hp; exact hdep e he hb)
      refine wpOp_mono (fun a' w' hq => ?_) (hlast D a w o (h1 hD) hall ho)
      exact ⟨hc', fun h => by simp at h, fun _ => hq⟩
    · have hin : i < n := by have := (Array.getElem?_eq_some_iff.1 ho).1; omega
      have hDn : D n = false := by
        cases hdn : D n with
        | false => rfl
        | true =>
          have := closed_all hanc hc (fun p hp e he hb => hc n p hp hdn e he hb) i hin
          rw [hD] at this
          cases this
      refine wpOp_mono (fun a' w' hq => ?_) (hstep D a w i o (h1 hDn) hin ho hD hdep hc)
      refine ⟨hc', fun _ => hq, fun h => ?_⟩
      simp only [Bool.or_eq_true, beq_iff_eq] at h
      rcases h with h | h
      · rw [hDn] at h; cases h
      · omega
  · rintro D a w ⟨_, _, h2⟩ hall
    exact h2 (hall n (by omega))
def wc (z : Int) : List Value := [.int .i64 (wh z), .int .u64 (wl z)]
def WBlk (W7 W : World) (z : Int) (v : Value) : Prop := ∃ b, v = .pointer (some ⟨b, 0, none⟩) ∧ W7.heap.size ≤ b ∧ HB W b 39 (wc z)
theorem WBlk.upd0 {W7 W W' : World} {z : Int} {v : Value} (h : WBlk W7 W z v) (hU : Upd [] W W') : WBlk W7 W' z v := by
  obtain ⟨b, h1, h2, h3⟩ := h
  exact ⟨b, h1, h2, h3.upd hU (by simp)⟩
end Go.Proofs.YthbjpoiolmlpmaaGreatDoor
