/- A gauge's values from window to window, as the law's own loops reckon them. -/
import Derived.Test.YthbjpoiolmlpmaaGreatDoorAgLaw5
set_option linter.unusedVariables false
set_option linter.unusedSimpArgs false
namespace Go.Proofs.YthbjpoiolmlpmaaGreatDoor
open Go.RowKit
def isG (n : ByteArray) (p : KE) : Bool := accB p && decide (p.2.kind = 2) && decide (p.2.name = n)
def atW (id : Int) (p : KE) : Bool := decide (p.1 = id)
theorem filt_gau (rows : List KE) (id : Int) (n : ByteArray) : (rows.filter accB).filter (inM id (2, n)) = (rows.filter (isG n)).filter (atW id) := by
  rw [List.filter_filter, List.filter_filter]
  congr 1
  funext p
  have hm : decide (met p.2 = (2, n)) = (decide (p.2.kind = 2) && decide (p.2.name = n)) := by simp [met, Prod.ext_iff]
  unfold isG atW inM
  rw [hm]
  cases accB p <;> cases decide (p.1 = id) <;> simp
def gk (E : List KE) (ids : List Int) (q : Nat) : GV := (ids.take q).foldl (gNext E) (fun _ => none)
theorem gk_next {E : List KE} {ids : List Int} {q : Nat} {id : Int} (h : ids[q]? = some id) : gk E ids (q + 1) = gNext E (gk E ids q) id := by
  unfold gk
  rw [List.take_add_one, h]
  simp
theorem Tells.at_ {E : List KE} {g g' : GV} {ids : List Int} {ws : List (Int × List TL)} (h : Tells E g ids ws g') : g' = ids.foldl (gNext E) g ∧ ∀ (q : Nat) (x : Int × List TL), ws[q]? = some x → Told E ((ids.take q).foldl (gNext E) g) x.1 x.2 := by
  induction h with
  | nil g => exact ⟨rfl, fun q x hx => by simp at hx⟩
  | cons h t ih =>
    refine ⟨ih.1, fun q x hx => ?_⟩
    cases q with
    | zero =>
      simp at hx
      subst hx
      exact h
    | succ q => exact ih.2 q x (by simpa using hx)
theorem gstep_bd : ∀ (l : List KE) (s : Int), (∀ p ∈ l, chk p.2 = 0) → (l.foldl gstep s).natAbs ≤ s.natAbs + l.length * 1000000000000000
  | [], s, _ => by simp
  | p :: l, s, h => by
    have ih := gstep_bd l (gstep s p) (fun q hq => h q (List.mem_cons_of_mem _ hq))
    obtain ⟨_, h1, _⟩ := chk_ok (h p (by simp))
    have : (gstep s p).natAbs ≤ s.natAbs + 1000000000000000 := by
      unfold gstep
      split <;> omega
    simp only [List.foldl_cons, List.length_cons]
    omega
theorem gk_bd {E : List KE} (hE : ∀ p ∈ E, chk p.2 = 0) (hl : E.length ≤ 1048576) (ids : List Int) (n : ByteArray) : ∀ q, q ≤ ids.length → ((gk E ids q n).getD 0).natAbs ≤ q * 1048576000000000000000
  | 0, _ => by simp [gk]
  | q + 1, hq => by
    have ih := gk_bd hE hl ids n q (by omega)
    have hx : ids[q]? = some ids[q] := List.getElem?_eq_getElem (by omega)
    rw [gk_next hx, (next_gau E (gk E ids q) ids[q] n).1]
    have h1 := gstep_bd (E.filter (inM ids[q] (2, n))) ((gk E ids q n).getD 0) (fun p hp => hE p (List.mem_filter.1 hp).1)
    have h2 := List.length_filter_le (inM ids[q] (2, n)) E
    omega
/-- What the law's loops reckon: the gauge ahead of a window; its events of the window, one by one; then the tallies. -/
structure GauLaw (rows : List KE) (n : ByteArray) (cw : List WCL) (gv : Nat → Option Int) : Prop where
  zero : gv 0 = none
  bd : ∀ q, q ≤ cw.length → ((gv q).getD 0).natAbs ≤ q * 1048576000000000000000
  next : ∀ q c, cw[q]? = some c → (gv (q + 1)).getD 0 = ((rows.filter (isG n)).filter (atW c.id)).foldl gstep ((gv q).getD 0) ∧ (gv (q + 1)).isSome = ((gv q).isSome || !((rows.filter (isG n)).filter (atW c.id)).isEmpty)
  tal : ∀ q c, cw[q]? = some c → ∀ l ∈ c.us.map (·.2), l.k = 2 → l.n = n → l.sum = (gv (q + 1)).getD 0
theorem gau_law {rows : List KE} (hl : rows.length ≤ 1048576) (n : ByteArray) {cw : List WCL} {A' : AgE} (h : Closes (runE rows) mxI (cw.map WCL.pl) A') :
    ∃ gv, GauLaw rows n cw gv ∧ gv cw.length = A'.g n := by
  obtain ⟨ids, h1, h2⟩ := runE_closes h
  have hE : ∀ p ∈ rows.filter accB, chk p.2 = 0 := acc_ok
  have hEl : (rows.filter accB).length ≤ 1048576 := Nat.le_trans (List.length_filter_le _ _) hl
  have hids : ids = cw.map WCL.id := by
    rw [← h2.ids, List.map_map]
    rfl
  have hat : ∀ (q : Nat) (c : WCL), cw[q]? = some c → ids[q]? = some c.id := fun q c hc => by rw [hids, List.getElem?_map, hc]; rfl
  have hlen : ids.length = cw.length := by rw [hids, List.length_map]
  refine ⟨fun q => gk (rows.filter accB) ids q n, ⟨by simp [gk], fun q hq => gk_bd hE hEl ids n q (by omega), fun q c hc => ?_, fun q c hc l hm hk hn => ?_⟩, ?_⟩
  · have := next_gau (rows.filter accB) (gk (rows.filter accB) ids q) c.id n
    rw [filt_gau] at this
    show (gk _ ids (q + 1) n).getD 0 = _ ∧ (gk _ ids (q + 1) n).isSome = _
    rw [gk_next (hat q c hc)]
    exact this
  · have hT := h2.at_.2 q c.pl (by rw [List.getElem?_map, hc]; rfl)
    have h3 := told_gau hT (t := l) hm hk
    have h4 := (next_gau (rows.filter accB) (gk (rows.filter accB) ids q) c.id n).1
    rw [hn] at h3
    show l.sum = (gk _ ids (q + 1) n).getD 0
    rw [gk_next (hat q c hc), h4]
    exact h3
  · show gk _ ids cw.length n = A'.g n
    rw [h2.at_.1]
    unfold gk
    rw [← hlen, List.take_length]
/-- Within a window. -/
theorem gau_step {rows : List KE} (hl : rows.length ≤ 1048576) (n : ByteArray) (id s : Int) {r : Nat} {p : KE} (hp : (rows.filter (isG n))[r]? = some p) :
    (((rows.filter (isG n)).take (r + 1)).filter (atW id)) = (((rows.filter (isG n)).take r).filter (atW id)) ++ (if p.1 = id then [p] else []) := by
  rw [List.take_add_one, hp, List.filter_append]
  congr 1
  by_cases h : p.1 = id <;> simp [atW, h]
theorem gau_part {rows : List KE} (hl : rows.length ≤ 1048576) (n : ByteArray) (id s : Int) (r : Nat) : ((((rows.filter (isG n)).take r).filter (atW id)).foldl gstep s).natAbs ≤ s.natAbs + 1048576000000000000000 := by
  have h1 := gstep_bd (((rows.filter (isG n)).take r).filter (atW id)) s (fun p hp => by
    have h1 := List.mem_of_mem_take (List.mem_filter.1 hp).1
    have h2 := (List.mem_filter.1 h1).2
    unfold isG at h2
    rw [Bool.and_eq_true, Bool.and_eq_true] at h2
    exact (acode_ok (of_decide_eq_true h2.1.1)).1)
  have h2 := List.length_filter_le (atW id) ((rows.filter (isG n)).take r)
  have h3 : ((rows.filter (isG n)).take r).length ≤ (rows.filter (isG n)).length := by rw [List.length_take]; exact Nat.min_le_right _ _
  have h4 := List.length_filter_le (isG n) rows
  omega
theorem isG_snoc (n : ByteArray) (rows : List KE) (p : KE) : (rows ++ [p]).filter (isG n) = if isG n p = true then rows.filter (isG n) ++ [p] else rows.filter (isG n) := by
  by_cases h : isG n p = true <;> simp [List.filter_append, h]
theorem isG_val {n : ByteArray} {rows : List KE} {p : KE} (h : p ∈ rows.filter (isG n)) : I64 p.2.value ∧ p.2.value.natAbs ≤ 1000000000000000 := by
  have h2 := (List.mem_filter.1 h).2
  unfold isG at h2
  rw [Bool.and_eq_true, Bool.and_eq_true] at h2
  obtain ⟨_, h3, _⟩ := chk_ok (acode_ok (of_decide_eq_true h2.1.1)).1
  unfold I64
  omega
end Go.Proofs.YthbjpoiolmlpmaaGreatDoor
