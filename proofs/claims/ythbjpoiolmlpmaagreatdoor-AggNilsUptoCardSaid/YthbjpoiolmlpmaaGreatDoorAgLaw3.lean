/- Laws of what is told: sums over windows, gauges from window to window, once. -/
import Derived.Test.YthbjpoiolmlpmaaGreatDoorAgLaw2
set_option linter.unusedVariables false
set_option linter.unusedSimpArgs false
namespace Go.Proofs.YthbjpoiolmlpmaaGreatDoor
/-- Over all windows told: what the tallies of a metric say, together. -/
theorem tells_sum {E : List KE} (m : Met) (f : TL → Int) (F : Int → Int) (hF : ∀ g id T, Told E g id T → ((T.filter fun t => decide (t.met = m)).map f).sum = F id) {g g' : GV} {ids : List Int} {ws : List (Int × List TL)} (h : Tells E g ids ws g') :
    (ws.map fun w => ((w.2.filter fun t => decide (t.met = m)).map f).sum).sum = (ids.map F).sum := by
  induction h with
  | nil => rfl
  | cons h t ih => rw [List.map_cons, List.sum_cons, List.map_cons, List.sum_cons, ih, hF _ _ _ h]
theorem IdsTo.cover {E : List KE} {id : Int} {ids : List Int} (h : IdsTo E id ids) (hc : ∀ p ∈ E, p.1 ≤ id) : ids.Nodup ∧ ∀ p ∈ E, p.1 ∈ ids :=
  ⟨h.rise.imp (fun h => by omega), fun p hp => (h.mem _).2 ⟨hc p hp, p, hp, rfl⟩⟩
theorem told_cnt {E : List KE} (n : ByteArray) (g : GV) (id : Int) (T : List TL) (h : Told E g id T) : ((T.filter fun t => decide (t.met = (1, n))).map TL.sum).sum = ((E.filter (inM id (1, n))).map fun p => scl p.2.value p.2.rate).sum := by
  rw [h.at_]
  split
  · simp [tlOf, TK.tl, tkOf_cnt, TK.sum]
  · rename_i hn
    rw [List.filter_eq_nil_iff.2 (fun p hp e => hn (List.any_eq_true.2 ⟨p, hp, e⟩))]
    rfl
theorem told_num {E : List KE} (m : Met) (g : GV) (id : Int) (T : List TL) (h : Told E g id T) : ((T.filter fun t => decide (t.met = m)).map TL.c).sum = ((E.filter (inM id m)).map fun _ => (1 : Int)).sum := by
  rw [h.at_]
  have one : ∀ l : List KE, (l.map fun _ => (1 : Int)).sum = l.length := fun l => by
    induction l with
    | nil => rfl
    | cons a l ih => rw [List.map_cons, List.sum_cons, ih, List.length_cons]; omega
  split
  · simp only [List.map_cons, List.map_nil, List.sum_cons, List.sum_nil, Int.add_zero]
    show (tkOf E id m).n = _
    rw [tkOf_n, one]
  · rename_i hn
    rw [List.filter_eq_nil_iff.2 (fun p hp e => hn (List.any_eq_true.2 ⟨p, hp, e⟩))]
    rfl
/-- P8.7: the sums of a counter. -/
theorem sums_law {E : List KE} (n : ByteArray) {g g' : GV} {id : Int} {ids : List Int} {ws : List (Int × List TL)} (hi : IdsTo E id ids) (hc : ∀ p ∈ E, p.1 ≤ id) (h : Tells E g ids ws g') :
    (ws.map fun w => ((w.2.filter fun t => decide (t.met = (1, n))).map TL.sum).sum).sum = ((E.filter fun p => decide (met p.2 = (1, n))).map fun p => scl p.2.value p.2.rate).sum ∧
    (ws.map fun w => ((w.2.filter fun t => decide (t.met = (1, n))).map TL.c).sum).sum = ((E.filter fun p => decide (met p.2 = (1, n))).length : Nat) := by
  obtain ⟨h1, h2⟩ := hi.cover hc
  refine ⟨?_, ?_⟩
  · rw [tells_sum (1, n) TL.sum _ (told_cnt n) h, sum_ids_met _ _ _ _ h1 h2]
  · rw [tells_sum (1, n) TL.c _ (told_num (1, n)) h, sum_ids_met _ _ _ _ h1 h2]
    generalize E.filter _ = l
    induction l with
    | nil => rfl
    | cons a l ih => rw [List.map_cons, List.sum_cons, ih, List.length_cons]; omega
/-- A gauge, an event further. -/
def gstep (s : Int) (p : KE) : Int := if p.2.delta = true then s + p.2.value else p.2.value
theorem fold_gau (l : List KE) (b : Int) : ∀ n st v, (l.foldl (fun k p => TK.take p.2 k) (TK.gau n st v)).sum b = l.foldl gstep ((TK.gau n st v).sum b) := by
  induction l with
  | nil => intro n st v; rfl
  | cons p l ih =>
    intro n st v
    rw [List.foldl_cons, List.foldl_cons]
    have : gstep ((TK.gau n st v).sum b) p = (TK.take p.2 (TK.gau n st v)).sum b := by
      cases hd : p.2.delta <;> cases st <;> simp [gstep, TK.take, TK.sum, hd]
      omega
    rw [this]
    cases hd : p.2.delta
    · rw [show TK.take p.2 (TK.gau n st v) = .gau (n + 1) true p.2.value by simp [TK.take, hd]]
      exact ih _ _ _
    · rw [show TK.take p.2 (TK.gau n st v) = .gau (n + 1) st (v + p.2.value) by simp [TK.take, hd]]
      exact ih _ _ _
theorem tkOf_gau (E : List KE) (id : Int) (n : ByteArray) (b : Int) : (tkOf E id (2, n)).sum b = (E.filter (inM id (2, n))).foldl gstep b := by
  unfold tkOf
  rw [show freshK ((2, n) : Met).1 = .gau 0 false 0 from rfl, fold_gau]
  simp [TK.sum]
/-- P8.2: gauges. -/
theorem told_gau {E : List KE} {g : GV} {id : Int} {T : List TL} (h : Told E g id T) {t : TL} (ht : t ∈ T) (hk : t.k = 2) : t.sum = (E.filter (inM id (2, t.n))).foldl gstep ((g t.n).getD 0) := by
  rw [← tkOf_gau]
  have e := h.eq t ht
  rw [show t.met = (2, t.n) from by unfold TL.met; rw [hk]] at e
  rw [e]
  rfl
theorem next_gau (E : List KE) (g : GV) (id : Int) (n : ByteArray) : ((gNext E g id n).getD 0) = (E.filter (inM id (2, n))).foldl gstep ((g n).getD 0) ∧ (gNext E g id n).isSome = ((g n).isSome || !(E.filter (inM id (2, n))).isEmpty) := by
  unfold gNext
  split
  · rename_i h
    obtain ⟨p, hp, hm⟩ := List.any_eq_true.1 h
    have : p ∈ E.filter (inM id (2, n)) := List.mem_filter.2 ⟨hp, hm⟩
    refine ⟨by rw [← tkOf_gau]; rfl, ?_⟩
    cases hl : E.filter (inM id (2, n)) with
    | nil => rw [hl] at this; cases this
    | cons a l => simp
  · rename_i hn
    rw [List.filter_eq_nil_iff.2 (fun p hp e => hn (List.any_eq_true.2 ⟨p, hp, e⟩))]
    simp
/-- P8.8: what is told is counted. -/
theorem tells_count {E : List KE} {g g' : GV} {ids : List Int} {ws : List (Int × List TL)} (h : Tells E g ids ws g') : (ws.map fun w => (w.2.map TL.c).sum).sum = (ids.map fun i => (cntW E i : Int)).sum := by
  induction h with
  | nil => rfl
  | cons h t ih => rw [List.map_cons, List.sum_cons, List.map_cons, List.sum_cons, ih, h.counts]
theorem closes_count {A A' : AgE} {id : Int} {ws : List (Int × List TL)} (h : Closes A id ws A') (ho : ∀ p ∈ A.E, A.bd < p.1) : (ws.map fun w => (w.2.map TL.c).sum).sum + (A'.E.length : Int) = A.E.length := by
  unfold Closes at h
  split at h
  · rw [h.1, h.2]; simp
  · obtain ⟨ids, g', h1, h2, rfl⟩ := h
    rw [tells_count h2]
    have hn : ids.Nodup := h1.rise.imp (fun h => by omega)
    have e1 : (ids.map fun i => (cntW A.E i : Int)).sum = ((A.E.filter fun p => decide (p.1 ≤ id)).length : Int) := by
      have := sum_ids (fun p : KE => p.1) (fun _ => (1 : Int)) (A.E.filter fun p => decide (p.1 ≤ id)) ids hn (fun p hp => by
        obtain ⟨q1, q2⟩ := List.mem_filter.1 hp
        exact (h1.mem _).2 ⟨by simpa using q2, p, q1, rfl⟩)
      have one : ∀ l : List KE, (l.map fun _ => (1 : Int)).sum = l.length := fun l => by
        induction l with
        | nil => rfl
        | cons a l ih => rw [List.map_cons, List.sum_cons, ih, List.length_cons]; omega
      rw [one] at this
      rw [← this]
      congr 1
      refine List.map_congr_left fun i hi => ?_
      rw [one, List.filter_filter]
      unfold cntW
      congr 2
      refine List.filter_congr fun p _ => ?_
      have := ((h1.mem i).1 hi).1
      by_cases e : p.1 = i
      · simp [e, this]
      · simp [e]
    rw [e1]
    show _ + ((A.E.filter fun p => decide (id < p.1)).length : Int) = _
    generalize A.E = l
    induction l with
    | nil => rfl
    | cons p l ih =>
      simp only [List.filter_cons, List.length_cons]
      by_cases e : p.1 ≤ id
      · have e2 : ¬ id < p.1 := by omega
        simp [e, e2]
        omega
      · have e2 : id < p.1 := by omega
        simp [e, e2]
        omega
theorem told_c_pos {E : List KE} {g : GV} {id : Int} {T : List TL} (h : Told E g id T) {t : TL} (ht : t ∈ T) : 1 ≤ t.c := by
  rw [h.eq t ht]
  show 1 ≤ (tkOf E id t.met).n
  rw [tkOf_n]
  have := told_pos h ht
  omega
theorem told_some {E : List KE} {g : GV} {id : Int} {T : List TL} (h : Told E g id T) (hi : ∃ p ∈ E, p.1 = id) : 0 < T.length := by
  obtain ⟨p, hp, e⟩ := hi
  have := (h.mem (met p.2)).2 ⟨p, hp, by simp [inM, e]⟩
  rw [List.mem_map] at this
  obtain ⟨t, ht, _⟩ := this
  exact List.length_pos_of_mem ht
end Go.Proofs.YthbjpoiolmlpmaaGreatDoor
