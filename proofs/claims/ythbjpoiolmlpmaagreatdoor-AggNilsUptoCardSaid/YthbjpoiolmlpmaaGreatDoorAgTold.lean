/- What Close tells, by the events. -/
import Derived.Test.YthbjpoiolmlpmaaGreatDoorAgSpec
import Derived.Test.YthbjpoiolmlpmaaGreatDoorTeller
import Derived.Test.YthbjpoiolmlpmaaGreatDoorTC
set_option linter.unusedVariables false
set_option linter.unusedSimpArgs false
namespace Go.Proofs.YthbjpoiolmlpmaaGreatDoor
/-- A tally, as plain data. -/
structure TL where
  k : Int
  n : ByteArray
  c : Int
  sum : Int
  wt : Int
  smp : List Int
  mem : List ByteArray
def TL.met (t : TL) : Met := (t.k, t.n)
def TK.tl (tk : TK) (m : Met) (b : Int) : TL := ⟨m.1, m.2, tk.n, tk.sum b, tk.wt, tk.smp, tk.mem⟩
def ltM (a b : Met) : Bool := decide (a.1 < b.1) || (decide (a.1 = b.1) && sLt a.2 b.2)
theorem ltM_iff {a b : Met} : ltM a b = true ↔ a.1 < b.1 ∨ (a.1 = b.1 ∧ sLt a.2 b.2 = true) := by simp [ltM]
theorem ltM_irrefl (a : Met) : ltM a a = false := by simp [ltM, sLt_irrefl]
theorem ltM_trans {a b c : Met} (h : ltM a b = true) (k : ltM b c = true) : ltM a c = true := by
  rw [ltM_iff] at *
  rcases h with h | ⟨h, h'⟩ <;> rcases k with k | ⟨k, k'⟩
  · exact .inl (by omega)
  · exact .inl (by omega)
  · exact .inl (by omega)
  · exact .inr ⟨by omega, sLt_trans h' k'⟩
theorem ltM_asymm {a b : Met} (h : ltM a b = true) (k : ltM b a = true) : False := by
  have := ltM_trans h k
  rw [ltM_irrefl] at this
  cases this
theorem ltM_total {a b : Met} (h : ltM a b = false) (k : ltM b a = false) : a = b := by
  have h' : ¬ (a.1 < b.1 ∨ (a.1 = b.1 ∧ sLt a.2 b.2 = true)) := by rw [← ltM_iff, h]; decide
  have k' : ¬ (b.1 < a.1 ∨ (b.1 = a.1 ∧ sLt b.2 a.2 = true)) := by rw [← ltM_iff, k]; decide
  have e : a.1 = b.1 := by omega
  refine Prod.ext e (sLt_total ?_ ?_)
  · rcases Bool.eq_false_or_eq_true (sLt a.2 b.2) with q | q
    · exact absurd (.inr ⟨e, q⟩) h'
    · exact q
  · rcases Bool.eq_false_or_eq_true (sLt b.2 a.2) with q | q
    · exact absurd (.inr ⟨e.symm, q⟩) k'
    · exact q
/-- Two rising lists with the same members are one list. -/
theorem rising_ext {α : Type} {lt : α → α → Prop} (irr : ∀ a, ¬ lt a a) (asy : ∀ a b, lt a b → ¬ lt b a) : ∀ {l m : List α}, l.Pairwise lt → m.Pairwise lt → (∀ x, x ∈ l ↔ x ∈ m) → l = m
  | [], [], _, _, _ => rfl
  | [], b :: m, _, _, h => absurd ((h b).2 (by simp)) (by simp)
  | a :: l, [], _, _, h => absurd ((h a).1 (by simp)) (by simp)
  | a :: l, b :: m, hl, hm, h => by
    rw [List.pairwise_cons] at hl hm
    have hab : a = b := by
      rcases List.mem_cons.1 ((h a).1 (by simp)) with e | e
      · exact e
      · rcases List.mem_cons.1 ((h b).2 (by simp)) with e' | e'
        · exact e'.symm
        · exact absurd (hl.1 b e') (asy _ _ (hm.1 a e))
    subst hab
    rw [rising_ext irr asy hl.2 hm.2 (fun x => ?_)]
    constructor
    · intro hx
      rcases List.mem_cons.1 ((h x).1 (List.mem_cons_of_mem _ hx)) with e | e
      · subst e; exact absurd (hl.1 _ hx) (irr _)
      · exact e
    · intro hx
      rcases List.mem_cons.1 ((h x).2 (List.mem_cons_of_mem _ hx)) with e | e
      · subst e; exact absurd (hm.1 _ hx) (irr _)
      · exact e
abbrev GV : Type := ByteArray → Option Int
def tlOf (E : List KE) (g : GV) (id : Int) (m : Met) : TL := (tkOf E id m).tl m ((g m.2).getD 0)
/-- The tallies of a window. -/
structure Told (E : List KE) (g : GV) (id : Int) (T : List TL) : Prop where
  rise : (T.map TL.met).Pairwise fun a b => ltM a b = true
  mem : ∀ m, m ∈ T.map TL.met ↔ ∃ p ∈ E, inM id m p = true
  eq : ∀ t ∈ T, t = tlOf E g id t.met
theorem Told.of_mets {E : List KE} {g : GV} {id : Int} {T : List TL} (h : Told E g id T) : T = (T.map TL.met).map (tlOf E g id) := by
  rw [List.map_map]
  conv => lhs; rw [← List.map_id T]
  exact List.map_congr_left (fun t ht => h.eq t ht)
theorem Told.unique {E : List KE} {g : GV} {id : Int} {T T' : List TL} (h : Told E g id T) (h' : Told E g id T') : T = T' := by
  have e : T.map TL.met = T'.map TL.met := rising_ext (fun a => by simp [ltM_irrefl]) (fun a b h1 h2 => ltM_asymm h1 h2) h.rise h'.rise (fun m => (h.mem m).trans (h'.mem m).symm)
  rw [h.of_mets, e, ← h'.of_mets]
/-- The gauges behind a window. -/
def gNext (E : List KE) (g : GV) (id : Int) : GV := fun x => if E.any (inM id (2, x)) = true then some ((tkOf E id (2, x)).sum ((g x).getD 0)) else g x
/-- Windows told one behind the other. -/
inductive Tells (E : List KE) : GV → List Int → List (Int × List TL) → GV → Prop
  | nil (g : GV) : Tells E g [] [] g
  | cons {g : GV} {id : Int} {ids : List Int} {T : List TL} {ws : List (Int × List TL)} {g' : GV} (h : Told E g id T) (t : Tells E (gNext E g id) ids ws g') : Tells E g (id :: ids) ((id, T) :: ws) g'
theorem Tells.ids {E : List KE} {g g' : GV} {ids : List Int} {ws : List (Int × List TL)} (h : Tells E g ids ws g') : ws.map (·.1) = ids := by
  induction h with
  | nil => rfl
  | cons h t ih => simp [ih]
theorem Tells.unique {E : List KE} {g g1 : GV} {ids : List Int} {ws : List (Int × List TL)} (h : Tells E g ids ws g1) : ∀ {ws' : List (Int × List TL)} {g2 : GV}, Tells E g ids ws' g2 → ws = ws' ∧ g1 = g2 := by
  induction h with
  | nil g =>
    intro ws' g2 k
    cases k
    exact ⟨rfl, rfl⟩
  | cons h t ih =>
    intro ws' g2 k
    cases k with
    | cons h' t' =>
      obtain ⟨e1, e2⟩ := ih t'
      exact ⟨by rw [e1, h.unique h'], e2⟩
/-- The ids that stand up to one, rising. -/
structure IdsTo (E : List KE) (id : Int) (ids : List Int) : Prop where
  rise : ids.Pairwise (· < ·)
  mem : ∀ i, i ∈ ids ↔ i ≤ id ∧ ∃ p ∈ E, p.1 = i
theorem IdsTo.unique {E : List KE} {id : Int} {l m : List Int} (h : IdsTo E id l) (k : IdsTo E id m) : l = m :=
  rising_ext (fun a => by omega) (fun a b h1 h2 => by omega) h.rise k.rise (fun i => (h.mem i).trans (k.mem i).symm)
/-- A shard, by its events: what is open, its gauges, its bound. -/
structure AgE where
  E : List KE
  g : GV
  bd : Int
def AgE.new : AgE := ⟨[], fun _ => none, -9223372036854775808⟩
def AgE.apply (A : AgE) (id : Int) (e : Ev) : AgE := if acode A.bd id e = 0 then { A with E := A.E ++ [(id, e)] } else A
/-- What Close tells, and what is then. -/
def Closes (A : AgE) (id : Int) (ws : List (Int × List TL)) (A' : AgE) : Prop :=
  if id ≤ A.bd then ws = [] ∧ A' = A
  else ∃ ids g', IdsTo A.E id ids ∧ Tells A.E A.g ids ws g' ∧ A' = ⟨A.E.filter fun p => decide (id < p.1), g', id⟩
theorem Closes.unique {A A1 A2 : AgE} {id : Int} {ws1 ws2 : List (Int × List TL)} (h : Closes A id ws1 A1) (k : Closes A id ws2 A2) : ws1 = ws2 ∧ A1 = A2 := by
  unfold Closes at h k
  split at h
  · rename_i hb
    rw [if_pos hb] at k
    exact ⟨h.1.trans k.1.symm, h.2.trans k.2.symm⟩
  · rename_i hb
    rw [if_neg hb] at k
    obtain ⟨ids, g', h1, h2, rfl⟩ := h
    obtain ⟨ids', g2, k1, k2, rfl⟩ := k
    obtain rfl := h1.unique k1
    obtain ⟨rfl, rfl⟩ := h2.unique k2
    exact ⟨rfl, rfl⟩
end Go.Proofs.YthbjpoiolmlpmaaGreatDoor
