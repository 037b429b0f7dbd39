/- How much a shard may have. -/
import Derived.Test.YthbjpoiolmlpmaaGreatDoorAgTold
set_option linter.unusedVariables false
set_option linter.unusedSimpArgs false
namespace Go.Proofs.YthbjpoiolmlpmaaGreatDoor
structure AgE.ok (M : Nat) (A : AgE) : Prop where
  ev : ∀ p ∈ A.E, chk p.2 = 0
  up : ∀ p ∈ A.E, A.bd < p.1
  gs : ∃ c, c + A.E.length ≤ M ∧ ∀ x v, A.g x = some v → v.natAbs ≤ c * 1000000000000000000
theorem AgE.new_ok : AgE.new.ok 0 := ⟨by simp [AgE.new], by simp [AgE.new], 0, by simp [AgE.new], by simp [AgE.new]⟩
theorem AgE.ok.mono {M N : Nat} {A : AgE} (h : A.ok M) (hm : M ≤ N) : A.ok N := by
  obtain ⟨h1, h2, c, h3, h4⟩ := h
  exact ⟨h1, h2, c, by omega, h4⟩
theorem acode_ok {bd id : Int} {e : Ev} (h : acode bd id e = 0) : chk e = 0 ∧ bd < id := by
  unfold acode at h
  split at h
  · rename_i h1
    split at h
    · cases h
    · exact ⟨h1, by omega⟩
  · exact absurd h (by assumption)
theorem AgE.ok_apply {M : Nat} {A : AgE} (h : A.ok M) (id : Int) (e : Ev) : (A.apply id e).ok (M + 1) := by
  unfold AgE.apply
  split
  · rename_i hc
    obtain ⟨c1, c2⟩ := acode_ok hc
    obtain ⟨h1, h2, c, h3, h4⟩ := h
    refine ⟨fun p hp => ?_, fun p hp => ?_, c, by simp; omega, h4⟩
    · rcases List.mem_append.1 hp with hp | hp
      · exact h1 p hp
      · simp at hp; subst hp; exact c1
    · rcases List.mem_append.1 hp with hp | hp
      · exact h2 p hp
      · simp at hp; subst hp; exact c2
  · exact h.mono (by omega)
theorem fold_ok : ∀ (l : List KE) (N : Nat) (k : TK), k.ok N → (∀ p ∈ l, chk p.2 = 0) → (l.foldl (fun k p => k.take p.2) k).ok (N + l.length)
  | [], N, k, h, _ => h
  | p :: l, N, k, h, hc => by
    obtain ⟨_, h2, h3⟩ := chk_ok (hc p (by simp))
    have := fold_ok l (N + 1) (k.take p.2) (take_ok h h2 h3) (fun q hq => hc q (List.mem_cons_of_mem _ hq))
    rw [List.foldl_cons, List.length_cons, show N + (l.length + 1) = N + 1 + l.length by omega]
    exact this
theorem tkOf_ok {E : List KE} (h : ∀ p ∈ E, chk p.2 = 0) (id : Int) (m : Met) : (tkOf E id m).ok (E.filter (inM id m)).length := by
  have := fold_ok (E.filter (inM id m)) 0 (freshK m.1) (fresh_ok _) (fun p hp => h p (List.mem_filter.1 hp).1)
  rwa [Nat.zero_add] at this
theorem fold_kind (l : List KE) : ∀ (k : TK), (l.foldl (fun k p => k.take p.2) k).kind = k.kind := by
  induction l with
  | nil => intro k; rfl
  | cons p l ih => intro k; rw [List.foldl_cons, ih, take_kind]
theorem tkOf_kind {E : List KE} {id : Int} {m : Met} (h : m.1 = 1 ∨ m.1 = 2 ∨ m.1 = 3 ∨ m.1 = 4) : (tkOf E id m).kind = m.1 := by
  unfold tkOf
  rw [fold_kind, fresh_kind h]
theorem ok_sum {N : Nat} {k : TK} (h : k.ok N) {b : Int} {c : Nat} (hb : b.natAbs ≤ c * 1000000000000000000) : (k.sum b).natAbs ≤ (c + N) * 1000000000000000000 := by
  cases k <;> simp only [TK.ok, TK.sum] at h ⊢
  · omega
  · split <;> omega
  · omega
  · simp
def cntW (E : List KE) (id : Int) : Nat := (E.filter fun p => decide (p.1 = id)).length
theorem cntM_le (E : List KE) (id : Int) (m : Met) : (E.filter (inM id m)).length ≤ cntW E id := by
  unfold cntW
  rw [show E.filter (inM id m) = (E.filter fun p => decide (p.1 = id)).filter (fun p => decide (met p.2 = m)) by
    rw [List.filter_filter]
    refine List.filter_congr fun p _ => ?_
    unfold inM
    rw [Bool.and_comm]]
  exact List.length_filter_le _ _
theorem cntW_sum (E : List KE) : ∀ (ids : List Int), ids.Nodup → (ids.map (cntW E)).sum ≤ (E.filter fun p => decide (p.1 ∈ ids)).length
  | [], _ => by simp
  | i :: ids, h => by
    rw [List.nodup_cons] at h
    have ih := cntW_sum E ids h.2
    rw [List.map_cons, List.sum_cons]
    have : (E.filter fun p => decide (p.1 ∈ i :: ids)).length = cntW E i + (E.filter fun p => decide (p.1 ∈ ids)).length := by
      unfold cntW
      clear ih
      induction E with
      | nil => rfl
      | cons p E ihE =>
        simp only [List.filter_cons]
        by_cases h1 : p.1 = i
        · have h2 : p.1 ∉ ids := by rw [h1]; exact h.1
          simp [h1, h.1]
          simp at ihE
          omega
        · by_cases h2 : p.1 ∈ ids
          · simp [h1, h2]
            simp at ihE
            omega
          · simp [h1, h2]
            simp at ihE
            omega
    omega
theorem tells_g {E : List KE} (hE : ∀ p ∈ E, chk p.2 = 0) {g g' : GV} {ids : List Int} {ws : List (Int × List TL)} (h : Tells E g ids ws g') : ∀ {c : Nat}, (∀ x v, g x = some v → v.natAbs ≤ c * 1000000000000000000) →
    ∀ x v, g' x = some v → v.natAbs ≤ (c + (ids.map (cntW E)).sum) * 1000000000000000000 := by
  induction h with
  | nil g => intro c hc x v hv; simpa using hc x v hv
  | @cons g id ids T ws g' h t ih =>
    intro c hc x v hv
    have h1 : ∀ x v, gNext E g id x = some v → v.natAbs ≤ (c + cntW E id) * 1000000000000000000 := by
      intro x v hv
      unfold gNext at hv
      split at hv
      · obtain rfl := Option.some.inj hv
        have hk := tkOf_ok hE id (2, x)
        have hb : ((g x).getD 0).natAbs ≤ c * 1000000000000000000 := by
          cases hg : g x with
          | none => simp
          | some u => simpa using hc x u hg
        exact Nat.le_trans (ok_sum hk hb) (Nat.mul_le_mul_right _ (Nat.add_le_add_left (cntM_le E id (2, x)) c))
      · exact Nat.le_trans (hc x v hv) (Nat.mul_le_mul_right _ (Nat.le_add_right c _))
    rw [List.map_cons, List.sum_cons, ← Nat.add_assoc]
    exact ih h1 x v hv
theorem AgE.ok_close {M : Nat} {A A' : AgE} {id : Int} {ws : List (Int × List TL)} (h : A.ok M) (hc : Closes A id ws A') : A'.ok M := by
  unfold Closes at hc
  split at hc
  · rw [hc.2]; exact h
  · rename_i hb
    obtain ⟨ids, g', h1, h2, rfl⟩ := hc
    obtain ⟨e1, e2, c, e3, e4⟩ := h
    refine ⟨fun p hp => e1 p (List.mem_filter.1 hp).1, fun p hp => by simpa using (List.mem_filter.1 hp).2, c + (ids.map (cntW A.E)).sum, ?_, tells_g e1 h2 e4⟩
    have hn : ids.Nodup := h1.rise.imp (fun h => by omega)
    have k1 := cntW_sum A.E ids hn
    have k2 : (A.E.filter fun p => decide (p.1 ∈ ids)).length + (A.E.filter fun p => decide (id < p.1)).length ≤ A.E.length := by
      have hd : ∀ i ∈ ids, i ≤ id := fun i hi => ((h1.mem i).1 hi).1
      generalize A.E = E
      induction E with
      | nil => simp
      | cons p E ih =>
        simp only [List.filter_cons, List.length_cons]
        by_cases g1 : p.1 ∈ ids
        · have := hd _ g1
          have g2 : ¬ id < p.1 := by omega
          simp [g1, g2]
          simp at ih
          omega
        · by_cases g2 : id < p.1
          · simp [g1, g2]
            simp at ih
            omega
          · simp [g1, g2]
            simp at ih
            omega
    show c + _ + (A.E.filter fun p => decide (id < p.1)).length ≤ M
    omega
end Go.Proofs.YthbjpoiolmlpmaaGreatDoor
