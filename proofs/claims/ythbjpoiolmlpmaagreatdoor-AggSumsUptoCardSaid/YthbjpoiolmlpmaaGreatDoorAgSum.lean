/- A counter's sums over a list of tallies, step by step. -/
import Derived.Test.YthbjpoiolmlpmaaGreatDoorAgLaw5
set_option linter.unusedVariables false
set_option linter.unusedSimpArgs false
namespace Go.Proofs.YthbjpoiolmlpmaaGreatDoor
open Go.RowKit
def mt (n : ByteArray) (t : TL) : Bool := decide (t.met = (1, n))
def sS (n : ByteArray) (L : List TL) : Int := ((L.filter (mt n)).map TL.sum).sum
def sC (n : ByteArray) (L : List TL) : Int := ((L.filter (mt n)).map TL.c).sum
theorem sS_snoc (n : ByteArray) (L : List TL) (t : TL) : sS n (L ++ [t]) = if mt n t = true then sS n L + t.sum else sS n L := by
  unfold sS
  by_cases h : mt n t = true <;> simp [List.filter_append, h]
theorem sC_snoc (n : ByteArray) (L : List TL) (t : TL) : sC n (L ++ [t]) = if mt n t = true then sC n L + t.c else sC n L := by
  unfold sC
  by_cases h : mt n t = true <;> simp [List.filter_append, h]
theorem sS_append (n : ByteArray) (L M : List TL) : sS n (L ++ M) = sS n L + sS n M := by
  unfold sS
  simp [List.filter_append]
theorem sC_append (n : ByteArray) (L M : List TL) : sC n (L ++ M) = sC n L + sC n M := by
  unfold sC
  simp [List.filter_append]
theorem sS_flat (n : ByteArray) (ws : List (Int × List TL)) : sS n (ws.flatMap (·.2)) = (ws.map fun w => ((w.2.filter fun t => decide (t.met = (1, n))).map TL.sum).sum).sum := by
  induction ws with
  | nil => rfl
  | cons q ws ih =>
    rw [List.flatMap_cons, sS_append, ih, List.map_cons, List.sum_cons]
    rfl
theorem sC_flat (n : ByteArray) (ws : List (Int × List TL)) : sC n (ws.flatMap (·.2)) = (ws.map fun w => ((w.2.filter fun t => decide (t.met = (1, n))).map TL.c).sum).sum := by
  induction ws with
  | nil => rfl
  | cons q ws ih =>
    rw [List.flatMap_cons, sC_append, ih, List.map_cons, List.sum_cons]
    rfl
structure Cnt (t : TL) : Prop where
  c : 0 ≤ t.c
  s : t.k = 1 → -(t.c * 1000000000000000000) ≤ t.sum ∧ t.sum ≤ t.c * 1000000000000000000
theorem sS_bd (n : ByteArray) : ∀ L : List TL, (∀ t ∈ L, Cnt t) → 0 ≤ sC n L ∧ -(sC n L * 1000000000000000000) ≤ sS n L ∧ sS n L ≤ sC n L * 1000000000000000000
  | [], _ => by simp [sS, sC]
  | t :: L, h => by
    have ih := sS_bd n L (fun x hx => h x (List.mem_cons_of_mem _ hx))
    have ht := h t (by simp)
    have e1 : sS n (t :: L) = sS n [t] + sS n L := sS_append n [t] L
    have e2 : sC n (t :: L) = sC n [t] + sC n L := sC_append n [t] L
    rw [e1, e2]
    by_cases hm : mt n t = true
    · have hk : t.k = 1 := by
        have := of_decide_eq_true hm
        exact congrArg Prod.fst this
      have := ht.s hk
      have := ht.c
      have f1 : sS n [t] = t.sum := by simp [sS, hm]
      have f2 : sC n [t] = t.c := by simp [sC, hm]
      rw [f1, f2]
      omega
    · have f1 : sS n [t] = 0 := by simp [sS, hm]
      have f2 : sC n [t] = 0 := by simp [sC, hm]
      rw [f1, f2]
      omega
theorem told_cnt1 {E : List KE} (hE : ∀ p ∈ E, chk p.2 = 0) {g : GV} {id : Int} {T : List TL} (h : Told E g id T) {t : TL} (ht : t ∈ T) : Cnt t := by
  have hc := told_c_pos h ht
  refine ⟨by omega, fun hk => ?_⟩
  have hm : t.met = (1, t.n) := by unfold TL.met; rw [hk]
  have e := h.eq t ht
  rw [hm] at e
  have e1 : t.sum = ((E.filter (inM id (1, t.n))).map fun p => scl p.2.value p.2.rate).sum := by
    conv => lhs; rw [e]
    show (tkOf E id (1, t.n)).sum _ = _
    rw [tkOf_cnt]
    rfl
  have e2 : t.c = (E.filter (inM id (1, t.n))).length := by
    conv => lhs; rw [e]
    show (tkOf E id (1, t.n)).n = _
    rw [tkOf_n]
  rw [e1, e2]
  have hb : ∀ p ∈ E.filter (inM id (1, t.n)), chk p.2 = 0 := fun p hp => hE p (List.mem_filter.1 hp).1
  generalize E.filter (inM id (1, t.n)) = l at hb
  clear e e1 e2 hc ht h hE
  induction l with
  | nil => simp
  | cons p l ih =>
    have ih := ih (fun q hq => hb q (List.mem_cons_of_mem _ hq))
    obtain ⟨_, h1, h2⟩ := chk_ok (hb p (by simp))
    have := scl_bd h1 h2.1
    simp only [List.map_cons, List.sum_cons, List.length_cons]
    omega
/-- The counter's events among rows, as the law's own loop adds them. -/
def nS (n : ByteArray) (rows : List KE) : Int := (((rows.filter accB).filter fun p => decide (met p.2 = (1, n))).map fun p => scl p.2.value p.2.rate).sum
def nC (n : ByteArray) (rows : List KE) : Nat := ((rows.filter accB).filter fun p => decide (met p.2 = (1, n))).length
def isC (n : ByteArray) (p : KE) : Bool := accB p && decide (p.2.kind = 1) && decide (p.2.name = n)
theorem n_snoc (n : ByteArray) (rows : List KE) (p : KE) : nS n (rows ++ [p]) = (if isC n p = true then nS n rows + scl p.2.value p.2.rate else nS n rows) ∧ nC n (rows ++ [p]) = if isC n p = true then nC n rows + 1 else nC n rows := by
  have hm : decide (met p.2 = (1, n)) = (decide (p.2.kind = 1) && decide (p.2.name = n)) := by simp [met, Prod.ext_iff]
  unfold nS nC isC
  by_cases h1 : accB p = true
  · by_cases h2 : decide (met p.2 = (1, n)) = true
    · have h3 := h2
      rw [hm] at h3
      rw [Bool.and_assoc, h1, h3]
      simp [List.filter_append, h1, h2]
    · have h3 := h2
      rw [hm] at h3
      rw [Bool.and_assoc, h1]
      simp only [Bool.true_and]
      rw [if_neg h3, if_neg h3]
      have h4 : ¬ met p.2 = (1, n) := by simpa using h2
      simp [List.filter_append, h1, h4]
  · simp [List.filter_append, h1]
theorem n_bd (n : ByteArray) (rows : List KE) : nC n rows ≤ rows.length ∧ -(nC n rows * 1000000000000000000 : Int) ≤ nS n rows ∧ nS n rows ≤ nC n rows * 1000000000000000000 := by
  have hl : nC n rows ≤ rows.length := Nat.le_trans (List.length_filter_le _ _) (List.length_filter_le _ _)
  refine ⟨hl, ?_⟩
  have hb : ∀ p ∈ (rows.filter accB).filter fun p => decide (met p.2 = (1, n)), chk p.2 = 0 := fun p hp => acc_ok p (List.mem_filter.1 hp).1
  unfold nS nC
  generalize (rows.filter accB).filter (fun p => decide (met p.2 = (1, n))) = l at hb
  clear hl
  induction l with
  | nil => simp
  | cons p l ih =>
    have ih := ih (fun q hq => hb q (List.mem_cons_of_mem _ hq))
    obtain ⟨_, h1, h2⟩ := chk_ok (hb p (by simp))
    have := scl_bd h1 h2.1
    simp only [List.map_cons, List.sum_cons, List.length_cons]
    omega
theorem sums_all {rows : List KE} (hI : ∀ p ∈ rows, I64 p.1) (n : ByteArray) {ws : List (Int × List TL)} {A' : AgE} (h : Closes (runE rows) mxI ws A') :
    sS n (ws.flatMap (·.2)) = nS n rows ∧ sC n (ws.flatMap (·.2)) = nC n rows ∧ ∀ t ∈ ws.flatMap (·.2), Cnt t := by
  obtain ⟨ids, h1, h2⟩ := runE_closes h
  have hc : ∀ p ∈ rows.filter accB, p.1 ≤ mxI := fun p hp => by
    have := hI p (List.mem_filter.1 hp).1
    unfold I64 at this
    exact this.2
  obtain ⟨k1, k2⟩ := sums_law n h1 hc h2
  refine ⟨by rw [sS_flat, k1]; rfl, by rw [sC_flat, k2]; rfl, fun t ht => ?_⟩
  obtain ⟨q, hq, ht⟩ := List.mem_flatMap.1 ht
  obtain ⟨g, hT⟩ := h2.told q hq
  exact told_cnt1 acc_ok hT ht
/-- On the way through the windows. -/
theorem sums_part {rows : List KE} (hl : rows.length ≤ 1048576) (n : ByteArray) {L M : List TL} (h : sC n (L ++ M) = nC n rows) (hc : ∀ t ∈ L ++ M, Cnt t) :
    0 ≤ sC n L ∧ sC n L ≤ 1048576 ∧ -(1048576 * 1000000000000000000) ≤ sS n L ∧ sS n L ≤ 1048576 * 1000000000000000000 := by
  have h1 := sS_bd n L (fun t ht => hc t (List.mem_append_left _ ht))
  have h2 := sS_bd n M (fun t ht => hc t (List.mem_append_right _ ht))
  have h3 := (n_bd n rows).1
  rw [sC_append] at h
  omega
end Go.Proofs.YthbjpoiolmlpmaaGreatDoor
