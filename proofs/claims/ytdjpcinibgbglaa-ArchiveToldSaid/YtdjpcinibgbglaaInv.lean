/- A region that draws its order, by an invariant over what has been done. -/
import Derived.Test.YtdjpcinibgbglaaBase
import Derived.Orders
set_option linter.unusedVariables false
set_option linter.unusedSimpArgs false
namespace Go.Proofs.Ytdjpcinibgbglaa
open Go.RowKit

def cnt : List Bool → Nat
  | [] => 0
  | b :: l => (if b = false then 1 else 0) + cnt l
theorem cnt_set : ∀ (l : List Bool) (i : Nat), l[i]? = some false → cnt (l.set i true) + 1 = cnt l
  | [], i, h => by simp at h
  | b :: l, 0, h => by
    simp at h
    subst h
    simp [cnt]
    omega
  | b :: l, i + 1, h => by
    have := cnt_set l i (by simpa using h)
    simp only [List.set_cons_succ, cnt]
    omega
theorem cnt_zero : ∀ (l : List Bool), cnt l = 0 → ∀ (i : Nat) (b : Bool), l[i]? = some b → b = true
  | [], _, i, b, h => by simp at h
  | c :: l, hz, 0, b, h => by
    simp at h
    subst h
    cases c with
    | true => rfl
    | false => simp [cnt] at hz
  | c :: l, hz, i + 1, b, h => cnt_zero l (by simp only [cnt] at hz; omega) i b (by simpa using h)
/-- What an operation waits for stands ahead of it. -/
def lowB (ops : Array Oper) : Bool := (List.range ops.size).all fun i => ((ops[i]?).map fun o => o.after.all fun e => !Region.binds .any e || decide (e.on < i)).getD true
theorem low_of {ops : Array Oper} (h : lowB ops = true) {i : Nat} {o : Oper} (ho : ops[i]? = some o) : ∀ e ∈ o.after, Region.binds .any e = true → e.on < i := by
  unfold lowB at h
  rw [List.all_eq_true] at h
  have hi : i < ops.size := (Array.getElem?_eq_some_iff.1 ho).1
  have := h i (List.mem_range.2 hi)
  rw [ho] at this
  simp only [Option.map_some, Option.getD_some, Array.all_eq_true_iff_forall_mem, Bool.or_eq_true, Bool.not_eq_true', decide_eq_true_eq] at this
  intro e he hb
  rcases this e he with k | k
  · rw [hb] at k; cases k
  · exact k

section
variable {P : Program} {ops : Array Oper} {Q : Exit → Act → World → Prop}
theorem wpAny_inv (I : (Nat → Bool) → Act → World → Prop) (hlow : lowB ops = true)
    (hstep : ∀ D a w i o, I D a w → ops[i]? = some o → D i = false → (∀ e ∈ o.after, Region.binds .any e = true → D e.on = true) → wpOp P ops Q i (I (fun j => D j || j == i)) a w)
    (hdone : ∀ D a w, I D a w → (∀ i, i < ops.size → D i = true) → Q .normal a w) :
    ∀ (fuel : Nat) (listed : Array Bool) (a : Act) (w : World), listed.size = ops.size → cnt listed.toList = fuel → I (fun j => listed.getD j false) a w → wpAny P .any ops Q fuel listed a w := by
  intro fuel
  induction fuel with
  | zero =>
    intro listed a w hs hc hI
    have hall : ∀ i, i < ops.size → listed.getD i false = true := fun i hi => by
      have := cnt_zero _ hc i (listed[i]'(by omega)) (by simp [List.getElem?_eq_getElem (show i < listed.toList.length by simp; omega)])
      simp [Array.getD, show i < listed.size by omega, this]
    refine ⟨?_, hdone _ a w hI hall⟩
    apply List.eq_nil_iff_forall_not_mem.2
    intro j hj
    obtain ⟨h1, o, ho, _⟩ := mem_ready.1 hj
    have hi : j < ops.size := (Array.getElem?_eq_some_iff.1 ho).1
    have h2 := hall j hi
    simp [Array.getD, show j < listed.size by omega] at h1 h2
    rw [h1] at h2
    cases h2
  | succ fuel ih =>
    intro listed a w hs hc hI
    refine ⟨fun hr => ?_, fun i hi => ?_⟩
    · exfalso
      have key : ∀ n, ∀ i, i < n → i < ops.size → listed.getD i false = true := by
        intro n
        induction n with
        | zero => intro i hi; omega
        | succ n ihn =>
          intro i hi hio
          rcases Bool.eq_false_or_eq_true (listed.getD i false) with h | h
          · exact h
          · exfalso
            have hm : i ∈ Region.ready .any ops listed := by
              refine mem_ready.2 ⟨?_, ops[i], Array.getElem?_eq_getElem hio, fun e he hb => ?_⟩
              · simp [Array.getD, show i < listed.size by omega] at h ⊢
                exact h
              · have hl := low_of hlow (Array.getElem?_eq_getElem hio) e he hb
                exact ihn e.on (by omega) (by omega)
            rw [hr] at hm
            cases hm
      have hz : ∀ (l : List Bool), (∀ i, i < l.length → l.getD i false = true) → cnt l = 0 := by
        intro l
        induction l with
        | nil => intro _; rfl
        | cons b l ihl =>
          intro h
          have h0 := h 0 (by simp)
          simp at h0
          subst h0
          have := ihl (fun i hi => by simpa using h (i + 1) (by simpa using hi))
          simp [cnt, this]
      have := hz listed.toList (fun i hi => by
        have := key (i + 1) i (by omega) (by simp at hi; omega)
        simp [Array.getD, show i < listed.size by simpa using hi] at this
        simp [List.getD, show i < listed.size by simpa using hi, this])
      omega
    · obtain ⟨h1, o, ho, hd⟩ := mem_ready.1 hi
      have hio : i < ops.size := (Array.getElem?_eq_some_iff.1 ho).1
      have hil : i < listed.size := by omega
      have hf : listed[i] = false := by simpa [Array.getD, hil] using h1
      refine wpOp_mono (fun a' w' h => ?_) (hstep _ a w i o hI ho (by simp [Array.getD, hil, hf]) hd)
      refine ih _ a' w' (by simp [hs]) ?_ ?_
      · have := cnt_set listed.toList i (by simp [List.getElem?_eq_getElem (show i < listed.toList.length by simpa using hil), hf])
        rw [Array.toList_setIfInBounds]
        omega
      · have e : (fun j => (listed.setIfInBounds i true).getD j false) = fun j => listed.getD j false || j == i := by
          funext j
          by_cases hj : j = i
          · subst hj
            simp [Array.getD, hil]
          · rw [getD_set_ne false (fun e => hj e.symm)]
            have : (j == i) = false := by simpa using hj
            simp [this]
        rw [e]
        exact h
/-- One operation, as a walk's list of one. -/
theorem wpOp_of_list {K : Act → World → Prop} {a : Act} {w : World} {i : Nat} {o : Oper} (ho : ops[i]? = some o) (h : wpList P ops (Exit.then K Q) [o] a w) : wpOp P ops Q i K a w := by
  unfold wpOp
  rw [ho]
  exact h
theorem region_inv {id : Nat} {a : Act} {w : World} (hm : P.follows .mixedOrders = true) (hlow : lowB ops = true) (I : (Nat → Bool) → Act → World → Prop) (h0 : I (fun _ => false) a w.drew)
    (hstep : ∀ D a w i o, I D a w → ops[i]? = some o → D i = false → (∀ e ∈ o.after, Region.binds .any e = true → D e.on = true) → wpOp P ops Q i (I (fun j => D j || j == i)) a w)
    (hdone : ∀ D a w, I D a w → (∀ i, i < ops.size → D i = true) → Q .normal a w) : (Code.region id ops true).wp P Q a w := by
  refine wp_region_any hm (wpAny_inv I hlow hstep hdone _ _ a _ (by simp) ?_ ?_)
  · have : ∀ n, cnt (List.replicate n false) = n := by
      intro n
      induction n with
      | zero => rfl
      | succ n ih => rw [List.replicate_succ]; simp [cnt, ih]; omega
    simp [this]
  · have e : (fun j => (Array.replicate ops.size false).getD j false) = fun _ => false := by
      funext j
      simp [Array.getD]
    rw [e]
    exact h0
end
end Go.Proofs.Ytdjpcinibgbglaa
