/- Of what is joined in two ways the same is told: the plain law. -/
import Derived.Test.YthbjpoiolmlpmaaPJoin
set_option linter.unusedVariables false
set_option linter.unusedSimpArgs false
namespace Go.Proofs.Ythbjpoiolmlpmaa
open Go.RowKit

def insT (x : TC) : List TC → List TC
  | [] => [x]
  | y :: l => if ltT x y = true then x :: y :: l else y :: insT x l
theorem fold_done (x : TC) : ∀ (l acc : List TC), l.foldl (insStep x) (acc, true) = (acc ++ l, true)
  | [], acc => by simp
  | y :: l, acc => by
    rw [List.foldl_cons]
    have : insStep x (acc, true) y = (acc ++ [y], true) := by simp [insStep]
    rw [this, fold_done x l]
    simp
theorem fold_ins (x : TC) : ∀ (l acc : List TC), (if (l.foldl (insStep x) (acc, false)).2 = true then (l.foldl (insStep x) (acc, false)).1 else (l.foldl (insStep x) (acc, false)).1 ++ [x]) = acc ++ insT x l
  | [], acc => by simp [insT]
  | y :: l, acc => by
    rw [List.foldl_cons]
    by_cases h : ltT x y = true
    · have : insStep x (acc, false) y = (acc ++ [x] ++ [y], true) := by simp [insStep, h]
      rw [this, fold_done]
      simp [insT, h]
    · have : insStep x (acc, false) y = (acc ++ [y], false) := by simp [insStep, h]
      rw [this, fold_ins x l]
      simp [insT, h]
theorem insFin_eq (x : TC) (l : List TC) : insFin x l = insT x l := by
  unfold insFin insPart
  exact (fold_ins x l []).trans (List.nil_append _)
theorem insT_perm (x : TC) : ∀ l : List TC, (insT x l).Perm (x :: l)
  | [] => .refl _
  | y :: l => by
    unfold insT
    split
    · exact .refl _
    · exact ((insT_perm x l).cons y).trans (.swap _ _ _)
theorem insT_sorted (x : TC) : ∀ l : List TC, l.Pairwise (fun a b => ltT b a = false) → (insT x l).Pairwise (fun a b => ltT b a = false)
  | [], _ => by simp [insT]
  | y :: l, h => by
    unfold insT
    have h' := List.pairwise_cons.1 h
    split
    · rename_i hxy
      refine List.pairwise_cons.2 ⟨fun z hz => ?_, h⟩
      rcases Bool.eq_false_or_eq_true (ltT z x) with k | k
      · have hzy := ltT_trans k hxy
        rcases List.mem_cons.1 hz with rfl | hz
        · rw [ltT_irrefl] at hzy; cases hzy
        · rw [h'.1 z hz] at hzy; cases hzy
      · exact k
    · rename_i hxy
      refine List.pairwise_cons.2 ⟨fun z hz => ?_, insT_sorted x l h'.2⟩
      rcases List.mem_cons.1 ((insT_perm x l).mem_iff.1 hz) with rfl | hz
      · simpa using hxy
      · exact h'.1 z hz
theorem sortedT_foldl : ∀ (l acc : List TC), (l.foldl (fun out x => insFin x out) acc).Perm (acc ++ l) ∧ (acc.Pairwise (fun a b => ltT b a = false) → (l.foldl (fun out x => insFin x out) acc).Pairwise (fun a b => ltT b a = false))
  | [], acc => by simp
  | x :: l, acc => by
    rw [List.foldl_cons]
    obtain ⟨h1, h2⟩ := sortedT_foldl l (insFin x acc)
    rw [insFin_eq] at *
    refine ⟨h1.trans (((insT_perm x acc).append_right l).trans ?_), fun h => h2 (insT_sorted x acc h)⟩
    exact (List.perm_middle (l₁ := acc)).symm
theorem sortedT_perm (l : List TC) : (sortedT l).Perm l := by simpa [sortedT] using (sortedT_foldl l []).1
theorem sortedT_sorted (l : List TC) : (sortedT l).Pairwise (fun a b => ltT b a = false) := (sortedT_foldl l []).2 .nil

theorem TDs.nil {w : World} {F : Nat → Prop} : TDs w F [] [] := ⟨rfl, fun i a d h => by simp at h⟩
theorem TDs.cons {w : World} {F : Nat → Prop} {us : List TC} {ds : List Tally} {a : TC} {d : Tally} (hr : Rd w F gTally a.cells d) (h : TDs w F us ds) : TDs w F (a :: us) (d :: ds) := by
  refine ⟨by simp [h.1], fun i a' d' h1 h2 => ?_⟩
  cases i with
  | zero => simp at h1 h2; subst h1; subst h2; exact hr
  | succ i => exact h.2 i a' d' (by simpa using h1) (by simpa using h2)
theorem TDs.uncons {w : World} {F : Nat → Prop} {us : List TC} {ds : List Tally} {a : TC} (h : TDs w F (a :: us) ds) : ∃ d ds', ds = d :: ds' ∧ Rd w F gTally a.cells d ∧ TDs w F us ds' := by
  cases ds with
  | nil => have := h.1; simp at this
  | cons d ds => exact ⟨d, ds, rfl, h.2 0 a d rfl rfl, by have := h.1; simpa using this, fun i a' d' h1 h2 => h.2 (i + 1) a' d' (by simpa using h1) (by simpa using h2)⟩
theorem TDs.perm {w : World} {F : Nat → Prop} {us us' : List TC} (hp : us.Perm us') : ∀ {ds : List Tally}, TDs w F us ds → ∃ ds', ds.Perm ds' ∧ TDs w F us' ds' := by
  induction hp with
  | nil => intro ds h; exact ⟨ds, .refl _, h⟩
  | cons x _ ih =>
    intro ds h
    obtain ⟨d, ds', rfl, h1, h2⟩ := h.uncons
    obtain ⟨ds'', p, h3⟩ := ih h2
    exact ⟨d :: ds'', p.cons d, h3.cons h1⟩
  | swap x y l =>
    intro ds h
    obtain ⟨d, ds', rfl, h1, h2⟩ := h.uncons
    obtain ⟨e, ds'', rfl, h3, h4⟩ := h2.uncons
    exact ⟨e :: d :: ds'', .swap _ _ _, (h4.cons h1).cons h3⟩
  | trans _ _ ih1 ih2 =>
    intro ds h
    obtain ⟨ds', p, h1⟩ := ih1 h
    obtain ⟨ds'', q, h2⟩ := ih2 h1
    exact ⟨ds'', p.trans q, h2⟩

/-- The order told by data. -/
def ltD (a b : Tally) : Bool := decide (a.1 < b.1) || (decide (a.1 = b.1) && sLt a.2.1 b.2.1)
def keyD (a : Tally) : Int × ByteArray := (a.1, a.2.1)
theorem TDs.keys {w : World} {F : Nat → Prop} {us : List TC} {ds : List Tally} (h : TDs w F us ds) : us.map keyT = ds.map keyD := by
  apply List.ext_getElem?
  intro i
  rw [List.getElem?_map, List.getElem?_map]
  cases h1 : us[i]? with
  | none =>
    have := List.getElem?_eq_none_iff.1 h1
    rw [List.getElem?_eq_none (by have := h.1; omega)]
    rfl
  | some a =>
    have hi := (List.getElem?_eq_some_iff.1 h1).1
    have hj : i < ds.length := by have := h.1; omega
    rw [List.getElem?_eq_getElem hj]
    have := tc_rd' (h.2 i a _ h1 (List.getElem?_eq_getElem hj))
    simp [keyT, keyD, this.1, this.2.1]
theorem TDs.sorted {w : World} {F : Nat → Prop} {us : List TC} {ds : List Tally} (h : TDs w F us ds) (hs : us.Pairwise (fun a b => ltT b a = false)) : ds.Pairwise (fun a b => ltD b a = false) := by
  rw [List.pairwise_iff_getElem] at hs ⊢
  intro i j hi hj hij
  have hl := h.1
  have h1 := hs i j (by omega) (by omega) hij
  have r1 := tc_rd' (h.2 i _ _ (List.getElem?_eq_getElem (by omega)) (List.getElem?_eq_getElem hi))
  have r2 := tc_rd' (h.2 j _ _ (List.getElem?_eq_getElem (by omega)) (List.getElem?_eq_getElem hj))
  unfold ltT at h1
  unfold ltD
  rw [← r1.1, ← r1.2.1, ← r2.1, ← r2.2.1]
  exact h1
theorem ltD_total {a b : Tally} (h : ltD a b = false) (k : ltD b a = false) : keyD a = keyD b := by
  have := @ltT_total { (default : TC) with k := a.1, n := a.2.1 } { (default : TC) with k := b.1, n := b.2.1 } h k
  exact Prod.ext this.1 this.2
theorem scan_nodup : ∀ (l acc : List TC), scan acc l = 0 → (acc.map keyT).Nodup → ((acc ++ l).map keyT).Nodup
  | [], acc, _, h => by simpa using h
  | t :: l, acc, hs, h => by
    unfold scan at hs
    split at hs
    · rename_i hb
      have := scan_nodup l (acc ++ [t]) hs (by
        rw [List.map_append, List.nodup_append]
        refine ⟨h, by simp, fun a ha b hb' => ?_⟩
        simp at hb'
        subst hb'
        rintro rfl
        unfold bad at hb
        split at hb
        · cases hb
        · split at hb
          · cases hb
          · rename_i hn
            apply hn
            rw [any_iff, mk_keys]
            exact ha)
      simpa using this
    · rename_i hb
      exact absurd hs hb
theorem inj_of_nodup {ds : List Tally} (h : (ds.map keyD).Nodup) : ∀ a b, a ∈ ds → b ∈ ds → keyD a = keyD b → a = b := by
  induction ds with
  | nil => intro a b h; simp at h
  | cons d ds ih =>
    rw [List.map_cons, List.nodup_cons] at h
    intro a b ha hb e
    rcases List.mem_cons.1 ha with ea | ha' <;> rcases List.mem_cons.1 hb with eb | hb'
    · exact ea.trans eb.symm
    · exact absurd (List.mem_map.2 ⟨b, hb', e.symm.trans (congrArg keyD ea)⟩) h.1
    · exact absurd (List.mem_map.2 ⟨a, ha', e.trans (congrArg keyD eb)⟩) h.1
    · exact ih h.2 a b ha' hb' e
theorem joins_law {w w' : World} {F G : Nat → Prop} {L os l' : List TC} {D : List Tally} (hD : TDs w F L D) (ho : TDs w' G os D) (hs : scan [] L = 0) (hp : l'.Perm os) (hw : l'.Pairwise (fun a b => ltT b a = false)) :
    ∃ ds, TDs w F (sortedT L) ds ∧ TDs w' G l' ds := by
  obtain ⟨d1, p1, t1⟩ := hD.perm (sortedT_perm L).symm
  obtain ⟨d2, p2, t2⟩ := ho.perm hp.symm
  have hn : (D.map keyD).Nodup := by
    rw [← hD.keys]
    simpa using scan_nodup L [] hs .nil
  have hj := inj_of_nodup hn
  have e : d1 = d2 := by
    refine List.Perm.eq_of_pairwise (le := fun a b => ltD b a = false) (fun a b ha hb h1 h2 => ?_) (t1.sorted (sortedT_sorted L)) (t2.sorted hw) (p1.symm.trans p2)
    exact hj a b (p1.mem_iff.2 ha) (p2.mem_iff.2 hb) (ltD_total h2 h1)
  subst e
  exact ⟨d1, t1, t2⟩
end Go.Proofs.Ythbjpoiolmlpmaa
