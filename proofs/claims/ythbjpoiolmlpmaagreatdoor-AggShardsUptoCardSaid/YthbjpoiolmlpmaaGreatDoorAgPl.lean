/- What a shard has, by the events that it took. What Close tells, by the events. How much a shard may have. Close, as plain data. Laws of what is told. Laws of what is told: samples, members, gauges, orders. Laws of what is told: sums over windows, gauges from window to window, once. Runs of events, all closed at the end. -/
import Derived.Test.YthbjpoiolmlpmaaGreatDoorApl
import Derived.Test.YthbjpoiolmlpmaaGreatDoorTeller
import Derived.Test.YthbjpoiolmlpmaaGreatDoorTC
set_option linter.unusedVariables false
set_option linter.unusedSimpArgs false
namespace Go.Proofs.YthbjpoiolmlpmaaGreatDoor
abbrev KE : Type := Int × Ev
def met (e : Ev) : Met := (e.kind, e.name)
def inM (id : Int) (m : Met) (p : KE) : Bool := decide (p.1 = id) && decide (met p.2 = m)
def tkOf (E : List KE) (id : Int) (m : Met) : TK := (E.filter (inM id m)).foldl (fun k p => k.take p.2) (freshK m.1)
/-- ws is what the events E make. -/
structure Means (E : List KE) (ws : List (Int × List (Met × TK))) : Prop where
  nd : (ws.map (·.1)).Nodup
  ids : ∀ id, id ∈ ws.map (·.1) ↔ ∃ p ∈ E, p.1 = id
  tnd : ∀ r ∈ ws, (r.2.map (·.1)).Nodup
  mets : ∀ r ∈ ws, ∀ m, m ∈ r.2.map (·.1) ↔ ∃ p ∈ E, inM r.1 m p = true
  tk : ∀ r ∈ ws, ∀ q ∈ r.2, q.2 = tkOf E r.1 q.1
theorem inM_iff {id : Int} {m : Met} {p : KE} : inM id m p = true ↔ p.1 = id ∧ met p.2 = m := by simp [inM]
theorem Means.nil : Means [] [] := ⟨.nil, by simp, by simp, by simp, by simp⟩
theorem tkOf_snoc (E : List KE) (p : KE) (id : Int) (m : Met) : tkOf (E ++ [p]) id m = if inM id m p = true then (tkOf E id m).take p.2 else tkOf E id m := by
  unfold tkOf
  rw [List.filter_append, List.foldl_append]
  by_cases h : inM id m p = true
  · simp [h]
  · simp [h]
theorem tkOf_none {E : List KE} {id : Int} {m : Met} (h : ∀ p ∈ E, inM id m p ≠ true) : tkOf E id m = freshK m.1 := by
  unfold tkOf
  rw [List.filter_eq_nil_iff.2 h]
  rfl
/-- The window's part. -/
structure MeansT (E : List KE) (id : Int) (ts : List (Met × TK)) : Prop where
  tnd : (ts.map (·.1)).Nodup
  mets : ∀ m, m ∈ ts.map (·.1) ↔ ∃ p ∈ E, inM id m p = true
  tk : ∀ q ∈ ts, q.2 = tkOf E id q.1
theorem Means.t {E : List KE} {ws : List (Int × List (Met × TK))} (h : Means E ws) {r : Int × List (Met × TK)} (hr : r ∈ ws) : MeansT E r.1 r.2 := ⟨h.tnd r hr, h.mets r hr, h.tk r hr⟩
theorem split_key {κ α : Type} [DecidableEq κ] (x : κ) : ∀ l : List (κ × α), x ∉ l.map (·.1) ∨ ∃ l1 a l2, l = l1 ++ (x, a) :: l2 ∧ x ∉ l1.map (·.1)
  | [] => .inl (by simp)
  | q :: l => by
    by_cases h : q.1 = x
    · obtain ⟨k, a⟩ := q
      dsimp only at h
      subst h
      exact .inr ⟨[], a, l, rfl, by simp⟩
    · rcases split_key x l with g | ⟨l1, a, l2, rfl, g⟩
      · exact .inl (by simp; exact ⟨fun e => h e.symm, by simpa using g⟩)
      · exact .inr ⟨q :: l1, a, l2, rfl, by simp; exact ⟨fun e => h e.symm, by simpa using g⟩⟩
theorem MeansT.other {E : List KE} {id : Int} {ts : List (Met × TK)} (h : MeansT E id ts) {p : KE} (hp : p.1 ≠ id) : MeansT (E ++ [p]) id ts := by
  have hn : ∀ m, inM id m p ≠ true := fun m e => hp (inM_iff.1 e).1
  refine ⟨h.tnd, fun m => ?_, fun q hq => ?_⟩
  · rw [h.mets m]
    constructor
    · rintro ⟨x, hx, g⟩
      exact ⟨x, List.mem_append_left _ hx, g⟩
    · rintro ⟨x, hx, g⟩
      rcases List.mem_append.1 hx with hx | hx
      · exact ⟨x, hx, g⟩
      · simp at hx; subst hx; exact absurd g (hn m)
  · rw [tkOf_snoc, if_neg (hn _)]
    exact h.tk q hq
theorem MeansT.upd {E : List KE} {id : Int} {ts : List (Met × TK)} (h : MeansT E id ts) (e : Ev) : MeansT (E ++ [(id, e)]) id (updT e ts) := by
  have hi : ∀ m, inM id m (id, e) = true ↔ met e = m := fun m => by simp [inM]
  have key : ∀ m, (∃ p ∈ E ++ [(id, e)], inM id m p = true) ↔ (∃ p ∈ E, inM id m p = true) ∨ met e = m := fun m => by
    constructor
    · rintro ⟨p, hp, g⟩
      rcases List.mem_append.1 hp with hp | hp
      · exact .inl ⟨p, hp, g⟩
      · simp at hp; subst hp; exact .inr ((hi m).1 g)
    · rintro (⟨p, hp, g⟩ | g)
      · exact ⟨p, List.mem_append_left _ hp, g⟩
      · exact ⟨(id, e), by simp, (hi m).2 g⟩
  rcases split_key (met e) ts with g | ⟨l1, k, l2, rfl, g⟩
  · rw [updT_new e ts g]
    have hno : ∀ p ∈ E, inM id (met e) p ≠ true := fun p hp hc => g ((h.mets _).2 ⟨p, hp, hc⟩)
    refine ⟨?_, fun m => ?_, fun q hq => ?_⟩
    · rw [List.map_append, List.nodup_append]
      refine ⟨h.tnd, by simp, fun a ha b hb => ?_⟩
      simp at hb
      subst hb
      exact fun e1 => g (by rw [show met e = a from e1.symm]; exact ha)
    · rw [key, ← h.mets m]
      simp [met, eq_comm]
    · rcases List.mem_append.1 hq with hq | hq
      · rw [tkOf_snoc, if_neg, h.tk q hq]
        rw [hi]
        intro e1
        rw [e1] at g
        exact g (List.mem_map_of_mem hq)
      · simp at hq
        subst hq
        show _ = tkOf _ id (met e)
        rw [tkOf_snoc, if_pos ((hi _).2 rfl), tkOf_none hno]
        rfl
  · rw [show updT e (l1 ++ (met e, k) :: l2) = l1 ++ (met e, k.take e) :: l2 from updT_at e l1 l2 k g]
    have hn := h.tnd
    rw [List.map_append, List.map_cons, List.nodup_append, List.nodup_cons] at hn
    refine ⟨by simpa [List.map_append] using h.tnd, fun m => ?_, fun q hq => ?_⟩
    · rw [key, ← h.mets m]
      simp only [List.map_append, List.map_cons, List.mem_append, List.mem_cons]
      constructor
      · rintro (a | a | a)
        · exact .inl (.inl a)
        · exact .inr a.symm
        · exact .inl (.inr (.inr a))
      · rintro ((a | a | a) | a)
        · exact .inl a
        · exact .inr (.inl a)
        · exact .inr (.inr a)
        · exact .inr (.inl a.symm)
    · have hne : ∀ q ∈ l1 ++ l2, q.1 ≠ met e := fun q hq e1 => by
        rcases List.mem_append.1 hq with hq | hq
        · exact g (by rw [← e1]; exact List.mem_map_of_mem hq)
        · exact hn.2.1.1 (by show met e ∈ l2.map (·.1); rw [← e1]; exact List.mem_map_of_mem hq)
      have old : ∀ q ∈ l1 ++ l2, q.2 = tkOf (E ++ [(id, e)]) id q.1 := fun q hq => by
        rw [tkOf_snoc, if_neg (by rw [hi]; exact fun e1 => hne q hq e1.symm)]
        exact h.tk q (by rcases List.mem_append.1 hq with a | a <;> simp [a])
      rcases List.mem_append.1 hq with hq | hq
      · exact old q (List.mem_append_left _ hq)
      · rcases List.mem_cons.1 hq with rfl | hq
        · show k.take e = tkOf _ id (met e)
          rw [tkOf_snoc, if_pos ((hi _).2 rfl), ← h.tk (met e, k) (by simp)]
        · exact old q (List.mem_append_right _ hq)
theorem MeansT.nil_of {E : List KE} {id : Int} (h : ∀ p ∈ E, p.1 ≠ id) : MeansT E id [] := by
  refine ⟨.nil, fun m => ⟨fun g => by simp at g, ?_⟩, by simp⟩
  rintro ⟨p, hp, g⟩
  exact absurd (inM_iff.1 g).1 (h p hp)
theorem Means.of {E : List KE} {ws : List (Int × List (Met × TK))} (nd : (ws.map (·.1)).Nodup) (ids : ∀ id, id ∈ ws.map (·.1) ↔ ∃ p ∈ E, p.1 = id) (t : ∀ r ∈ ws, MeansT E r.1 r.2) : Means E ws :=
  ⟨nd, ids, fun r hr => (t r hr).tnd, fun r hr => (t r hr).mets, fun r hr => (t r hr).tk⟩
theorem Means.upd {E : List KE} {ws : List (Int × List (Met × TK))} (h : Means E ws) (id : Int) (e : Ev) : Means (E ++ [(id, e)]) (updW id e ws) := by
  have key : ∀ i, (∃ p ∈ E ++ [(id, e)], p.1 = i) ↔ (∃ p ∈ E, p.1 = i) ∨ id = i := fun i => by
    constructor
    · rintro ⟨p, hp, g⟩
      rcases List.mem_append.1 hp with hp | hp
      · exact .inl ⟨p, hp, g⟩
      · simp at hp; subst hp; exact .inr g
    · rintro (⟨p, hp, g⟩ | g)
      · exact ⟨p, List.mem_append_left _ hp, g⟩
      · exact ⟨(id, e), by simp, g⟩
  rcases split_key id ws with g | ⟨l1, ts, l2, rfl, g⟩
  · rw [updW_new id e ws g]
    have hno : ∀ p ∈ E, p.1 ≠ id := fun p hp hc => g ((h.ids _).2 ⟨p, hp, hc⟩)
    refine .of ?_ (fun i => ?_) (fun r hr => ?_)
    · rw [List.map_append, List.nodup_append]
      refine ⟨h.nd, by simp, fun a ha b hb => ?_⟩
      simp at hb
      subst hb
      exact fun e1 => g (e1 ▸ ha)
    · rw [key, ← h.ids i]
      simp [eq_comm]
    · rcases List.mem_append.1 hr with hr | hr
      · exact (h.t hr).other (fun e1 => g (by rw [show id = r.1 from e1]; exact List.mem_map_of_mem hr))
      · simp at hr
        subst hr
        exact (MeansT.nil_of hno).upd e
  · rw [updW_at id e l1 l2 ts g]
    have hn := h.nd
    rw [List.map_append, List.map_cons, List.nodup_append, List.nodup_cons] at hn
    have hne : ∀ q ∈ l1 ++ l2, q.1 ≠ id := fun q hq e1 => by
      rcases List.mem_append.1 hq with hq | hq
      · exact g (by rw [← e1]; exact List.mem_map_of_mem hq)
      · exact hn.2.1.1 (by show id ∈ l2.map (·.1); rw [← e1]; exact List.mem_map_of_mem hq)
    refine .of (by simpa [List.map_append] using h.nd) (fun i => ?_) (fun r hr => ?_)
    · rw [key, ← h.ids i]
      simp only [List.map_append, List.map_cons, List.mem_append, List.mem_cons]
      constructor
      · rintro (a | a | a)
        · exact .inl (.inl a)
        · exact .inr a.symm
        · exact .inl (.inr (.inr a))
      · rintro ((a | a | a) | a)
        · exact .inl a
        · exact .inr (.inl a)
        · exact .inr (.inr a)
        · exact .inr (.inl a.symm)
    · have old : ∀ q ∈ l1 ++ l2, MeansT (E ++ [(id, e)]) q.1 q.2 := fun q hq => (h.t (by rcases List.mem_append.1 hq with a | a <;> simp [a])).other (fun e1 => hne q hq e1.symm)
      rcases List.mem_append.1 hr with hr | hr
      · exact old r (List.mem_append_left _ hr)
      · rcases List.mem_cons.1 hr with rfl | hr
        · exact (h.t (r := (id, ts)) (by simp)).upd e
        · exact old r (List.mem_append_right _ hr)
/-- Without the windows up to one. -/
theorem Means.above {E : List KE} {ws : List (Int × List (Met × TK))} (h : Means E ws) (id : Int) : Means (E.filter fun p => decide (id < p.1)) (ws.filter fun r => decide (id < r.1)) := by
  refine .of (List.Sublist.nodup (List.Sublist.map _ List.filter_sublist) h.nd) (fun i => ?_) (fun r hr => ?_)
  · constructor
    · intro hi
      obtain ⟨r, hr, rfl⟩ := List.mem_map.1 hi
      obtain ⟨hr1, hr2⟩ := List.mem_filter.1 hr
      obtain ⟨p, hp, g⟩ := (h.ids r.1).1 (List.mem_map_of_mem hr1)
      exact ⟨p, List.mem_filter.2 ⟨hp, by rw [g]; exact hr2⟩, g⟩
    · rintro ⟨p, hp, rfl⟩
      obtain ⟨hp1, hp2⟩ := List.mem_filter.1 hp
      obtain ⟨r, hr, g⟩ := List.mem_map.1 ((h.ids p.1).2 ⟨p, hp1, rfl⟩)
      rw [← g]
      exact List.mem_map_of_mem (List.mem_filter.2 ⟨hr, by rw [g]; exact hp2⟩)
  · obtain ⟨hr1, hr2⟩ := List.mem_filter.1 hr
    have hf : ∀ m, (E.filter fun p => decide (id < p.1)).filter (inM r.1 m) = E.filter (inM r.1 m) := fun m => by
      rw [List.filter_filter]
      refine List.filter_congr fun p _ => ?_
      by_cases hc : p.1 = r.1
      · have : decide (id < p.1) = true := by rw [hc]; exact hr2
        simp [this]
      · simp [inM, hc]
    have ht := h.t hr1
    refine ⟨ht.tnd, fun m => ?_, fun q hq => ?_⟩
    · rw [ht.mets m]
      constructor
      · rintro ⟨p, hp, g⟩
        exact ⟨p, List.mem_filter.2 ⟨hp, by rw [(inM_iff.1 g).1]; exact hr2⟩, g⟩
      · rintro ⟨p, hp, g⟩
        exact ⟨p, (List.mem_filter.1 hp).1, g⟩
    · rw [ht.tk q hq]
      unfold tkOf
      rw [hf]
end Go.Proofs.YthbjpoiolmlpmaaGreatDoor
namespace Go.Proofs.YthbjpoiolmlpmaaGreatDoor
/-- A tally, as plain data. -/
structure TL where
  k : Int
  n : ByteArray
  c : Int
  sum : Int
  wt : Int
  smp : List Int
  mem : List ByteArray
def TL.met (t : TL) : Met := (t.k, t.n)
def TK.tl (tk : TK) (m : Met) (b : Int) : TL := ⟨m.1, m.2, tk.n, tk.sum b, tk.wt, tk.smp, tk.mem⟩
def ltM (a b : Met) : Bool := decide (a.1 < b.1) || (decide (a.1 = b.1) && sLt a.2 b.2)
theorem ltM_iff {a b : Met} : ltM a b = true ↔ a.1 < b.1 ∨ (a.1 = b.1 ∧ sLt a.2 b.2 = true) := by simp [ltM]
theorem ltM_irrefl (a : Met) : ltM a a = false := by simp [ltM, sLt_irrefl]
theorem ltM_trans {a b c : Met} (h : ltM a b = true) (k : ltM b c = true) : ltM a c = true := by
  rw [ltM_iff] at *
  rcases h with h | ⟨h, h'⟩ <;> rcases k with k | ⟨k, k'⟩
  · exact .inl (by omega)
  · exact .inl (by omega)
  · exact .inl (by omega)
  · exact .inr ⟨by omega, sLt_trans h' k'⟩
theorem ltM_asymm {a b : Met} (h : ltM a b = true) (k : ltM b a = true) : False := by
  have := ltM_trans h k
  rw [ltM_irrefl] at this
  cases this
theorem ltM_total {a b : Met} (h : ltM a b = false) (k : ltM b a = false) : a = b := by
  have h' : ¬ (a.1 < b.1 ∨ (a.1 = b.1 ∧ sLt a.2 b.2 = true)) := by rw [← ltM_iff, h]; decide
  have k' : ¬ (b.1 < a.1 ∨ (b.1 = a.1 ∧ sLt b.2 a.2 = true)) := by rw [← ltM_iff, k]; decide
  have e : a.1 = b.1 := by omega
  refine Prod.ext e (sLt_total ?_ ?_)
  · rcases Bool.eq_false_or_eq_true (sLt a.2 b.2) with q | q
    · exact absurd (.inr ⟨e, q⟩) h'
    · exact q
  · rcases Bool.eq_false_or_eq_true (sLt b.2 a.2) with q | q
    · exact absurd (.inr ⟨e.symm, q⟩) k'
    · exact q
/-- Two rising lists with the same members are one list. -/
theorem rising_ext {α : Type} {lt : α → α → Prop} (irr : ∀ a, ¬ lt a a) (asy : ∀ a b, lt a b → ¬ lt b a) : ∀ {l m : List α}, l.Pairwise lt → m.Pairwise lt → (∀ x, x ∈ l ↔ x ∈ m) → l = m
  | [], [], _, _, _ => rfl
  | [], b :: m, _, _, h => absurd ((h b).2 (by simp)) (by simp)
  | a :: l, [], _, _, h => absurd ((h a).1 (by simp)) (by simp)
  | a :: l, b :: m, hl, hm, h => by
    rw [List.pairwise_cons] at hl hm
    have hab : a = b := by
      rcases List.mem_cons.1 ((h a).1 (by simp)) with e | e
      · exact e
      · rcases List.mem_cons.1 ((h b).2 (by simp)) with e' | e'
        · exact e'.symm
        · exact absurd (hl.1 b e') (asy _ _ (hm.1 a e))
    subst hab
    rw [rising_ext irr asy hl.2 hm.2 (fun x => ?_)]
    constructor
    · intro hx
      rcases List.mem_cons.1 ((h x).1 (List.mem_cons_of_mem _ hx)) with e | e
      · subst e; exact absurd (hl.1 _ hx) (irr _)
      · exact e
    · intro hx
      rcases List.mem_cons.1 ((h x).2 (List.mem_cons_of_mem _ hx)) with e | e
      · subst e; exact absurd (hm.1 _ hx) (irr _)
      · exact e
abbrev GV : Type := ByteArray → Option Int
def tlOf (E : List KE) (g : GV) (id : Int) (m : Met) : TL := (tkOf E id m).tl m ((g m.2).getD 0)
/-- The tallies of a window. -/
structure Told (E : List KE) (g : GV) (id : Int) (T : List TL) : Prop where
  rise : (T.map TL.met).Pairwise fun a b => ltM a b = true
  mem : ∀ m, m ∈ T.map TL.met ↔ ∃ p ∈ E, inM id m p = true
  eq : ∀ t ∈ T, t = tlOf E g id t.met
theorem Told.of_mets {E : List KE} {g : GV} {id : Int} {T : List TL} (h : Told E g id T) : T = (T.map TL.met).map (tlOf E g id) := by
  rw [List.map_map]
  conv => lhs; rw [← List.map_id T]
  exact List.map_congr_left (fun t ht => h.eq t ht)
theorem Told.unique {E : List KE} {g : GV} {id : Int} {T T' : List TL} (h : Told E g id T) (h' : Told E g id T') : T = T' := by
  have e : T.map TL.met = T'.map TL.met := rising_ext (fun a => by simp [ltM_irrefl]) (fun a b h1 h2 => ltM_asymm h1 h2) h.rise h'.rise (fun m => (h.mem m).trans (h'.mem m).symm)
  rw [h.of_mets, e, ← h'.of_mets]
/-- The gauges behind a window. -/
def gNext (E : List KE) (g : GV) (id : Int) : GV := fun x => if E.any (inM id (2, x)) = true then some ((tkOf E id (2, x)).sum ((g x).getD 0)) else g x
/-- Windows told one behind the other. -/
inductive Tells (E : List KE) : GV → List Int → List (Int × List TL) → GV → Prop
  | nil (g : GV) : Tells E g [] [] g
  | cons {g : GV} {id : Int} {ids : List Int} {T : List TL} {ws : List (Int × List TL)} {g' : GV} (h : Told E g id T) (t : Tells E (gNext E g id) ids ws g') : Tells E g (id :: ids) ((id, T) :: ws) g'
theorem Tells.ids {E : List KE} {g g' : GV} {ids : List Int} {ws : List (Int × List TL)} (h : Tells E g ids ws g') : ws.map (·.1) = ids := by
  induction h with
  | nil => rfl
  | cons h t ih => simp [ih]
theorem Tells.unique {E : List KE} {g g1 : GV} {ids : List Int} {ws : List (Int × List TL)} (h : Tells E g ids ws g1) : ∀ {ws' : List (Int × List TL)} {g2 : GV}, Tells E g ids ws' g2 → ws = ws' ∧ g1 = g2 := by
  induction h with
  | nil g =>
    intro ws' g2 k
    cases k
    exact ⟨rfl, rfl⟩
  | cons h t ih =>
    intro ws' g2 k
    cases k with
    | cons h' t' =>
      obtain ⟨e1, e2⟩ := ih t'
      exact ⟨by rw [e1, h.unique h'], e2⟩
/-- The ids that stand up to one, rising. -/
structure IdsTo (E : List KE) (id : Int) (ids : List Int) : Prop where
  rise : ids.Pairwise (· < ·)
  mem : ∀ i, i ∈ ids ↔ i ≤ id ∧ ∃ p ∈ E, p.1 = i
theorem IdsTo.unique {E : List KE} {id : Int} {l m : List Int} (h : IdsTo E id l) (k : IdsTo E id m) : l = m :=
  rising_ext (fun a => by omega) (fun a b h1 h2 => by omega) h.rise k.rise (fun i => (h.mem i).trans (k.mem i).symm)
/-- A shard, by its events: what is open, its gauges, its bound. -/
structure AgE where
  E : List KE
  g : GV
  bd : Int
def AgE.new : AgE := ⟨[], fun _ => none, -9223372036854775808⟩
def AgE.apply (A : AgE) (id : Int) (e : Ev) : AgE := if acode A.bd id e = 0 then { A with E := A.E ++ [(id, e)] } else A
/-- What Close tells, and what is then. -/
def Closes (A : AgE) (id : Int) (ws : List (Int × List TL)) (A' : AgE) : Prop :=
  if id ≤ A.bd then ws = [] ∧ A' = A
  else ∃ ids g', IdsTo A.E id ids ∧ Tells A.E A.g ids ws g' ∧ A' = ⟨A.E.filter fun p => decide (id < p.1), g', id⟩
theorem Closes.unique {A A1 A2 : AgE} {id : Int} {ws1 ws2 : List (Int × List TL)} (h : Closes A id ws1 A1) (k : Closes A id ws2 A2) : ws1 = ws2 ∧ A1 = A2 := by
  unfold Closes at h k
  split at h
  · rename_i hb
    rw [if_pos hb] at k
    exact ⟨h.1.trans k.1.symm, h.2.trans k.2.symm⟩
  · rename_i hb
    rw [if_neg hb] at k
    obtain ⟨ids, g', h1, h2, rfl⟩ := h
    obtain ⟨ids', g2, k1, k2, rfl⟩ := k
    obtain rfl := h1.unique k1
    obtain ⟨rfl, rfl⟩ := h2.unique k2
    exact ⟨rfl, rfl⟩
end Go.Proofs.YthbjpoiolmlpmaaGreatDoor
namespace Go.Proofs.YthbjpoiolmlpmaaGreatDoor
structure AgE.ok (M : Nat) (A : AgE) : Prop where
  ev : ∀ p ∈ A.E, chk p.2 = 0
  up : ∀ p ∈ A.E, A.bd < p.1
  gs : ∃ c, c + A.E.length ≤ M ∧ ∀ x v, A.g x = some v → v.natAbs ≤ c * 1000000000000000000
theorem AgE.new_ok : AgE.new.ok 0 := ⟨by simp [AgE.new], by simp [AgE.new], 0, by simp [AgE.new], by simp [AgE.new]⟩
theorem AgE.ok.mono {M N : Nat} {A : AgE} (h : A.ok M) (hm : M ≤ N) : A.ok N := by
  obtain ⟨h1, h2, c, h3, h4⟩ := h
  exact ⟨h1, h2, c, by omega, h4⟩
theorem acode_ok {bd id : Int} {e : Ev} (h : acode bd id e = 0) : chk e = 0 ∧ bd < id := by
  unfold acode at h
  split at h
  · rename_i h1
    split at h
    · cases h
    · exact ⟨h1, by omega⟩
  · exact absurd h (by assumption)
theorem AgE.ok_apply {M : Nat} {A : AgE} (h : A.ok M) (id : Int) (e : Ev) : (A.apply id e).ok (M + 1) := by
  unfold AgE.apply
  split
  · rename_i hc
    obtain ⟨c1, c2⟩ := acode_ok hc
    obtain ⟨h1, h2, c, h3, h4⟩ := h
    refine ⟨fun p hp => ?_, fun p hp => ?_, c, by simp; omega, h4⟩
    · rcases List.mem_append.1 hp with hp | hp
      · exact h1 p hp
      · simp at hp; subst hp; exact c1
    · rcases List.mem_append.1 hp with hp | hp
      · exact h2 p hp
      · simp at hp; subst hp; exact c2
  · exact h.mono (by omega)
theorem fold_ok : ∀ (l : List KE) (N : Nat) (k : TK), k.ok N → (∀ p ∈ l, chk p.2 = 0) → (l.foldl (fun k p => k.take p.2) k).ok (N + l.length)
  | [], N, k, h, _ => h
  | p :: l, N, k, h, hc => by
    obtain ⟨_, h2, h3⟩ := chk_ok (hc p (by simp))
    have := fold_ok l (N + 1) (k.take p.2) (take_ok h h2 h3) (fun q hq => hc q (List.mem_cons_of_mem _ hq))
    rw [List.foldl_cons, List.length_cons, show N + (l.length + 1) = N + 1 + l.length by omega]
    exact this
theorem tkOf_ok {E : List KE} (h : ∀ p ∈ E, chk p.2 = 0) (id : Int) (m : Met) : (tkOf E id m).ok (E.filter (inM id m)).length := by
  have := fold_ok (E.filter (inM id m)) 0 (freshK m.1) (fresh_ok _) (fun p hp => h p (List.mem_filter.1 hp).1)
  rwa [Nat.zero_add] at this
theorem fold_kind (l : List KE) : ∀ (k : TK), (l.foldl (fun k p => k.take p.2) k).kind = k.kind := by
  induction l with
  | nil => intro k; rfl
  | cons p l ih => intro k; rw [List.foldl_cons, ih, take_kind]
theorem tkOf_kind {E : List KE} {id : Int} {m : Met} (h : m.1 = 1 ∨ m.1 = 2 ∨ m.1 = 3 ∨ m.1 = 4) : (tkOf E id m).kind = m.1 := by
  unfold tkOf
  rw [fold_kind, fresh_kind h]
theorem ok_sum {N : Nat} {k : TK} (h : k.ok N) {b : Int} {c : Nat} (hb : b.natAbs ≤ c * 1000000000000000000) : (k.sum b).natAbs ≤ (c + N) * 1000000000000000000 := by
  cases k <;> simp only [TK.ok, TK.sum] at h ⊢
  · omega
  · split <;> omega
  · omega
  · simp
def cntW (E : List KE) (id : Int) : Nat := (E.filter fun p => decide (p.1 = id)).length
theorem cntM_le (E : List KE) (id : Int) (m : Met) : (E.filter (inM id m)).length ≤ cntW E id := by
  unfold cntW
  rw [show E.filter (inM id m) = (E.filter fun p => decide (p.1 = id)).filter (fun p => decide (met p.2 = m)) by
    rw [List.filter_filter]
    refine List.filter_congr fun p _ => ?_
    unfold inM
    rw [Bool.and_comm]]
  exact List.length_filter_le _ _
theorem cntW_sum (E : List KE) : ∀ (ids : List Int), ids.Nodup → (ids.map (cntW E)).sum ≤ (E.filter fun p => decide (p.1 ∈ ids)).length
  | [], _ => by simp
  | i :: ids, h => by
    rw [List.nodup_cons] at h
    have ih := cntW_sum E ids h.2
    rw [List.map_cons, List.sum_cons]
    have : (E.filter fun p => decide (p.1 ∈ i :: ids)).length = cntW E i + (E.filter fun p => decide (p.1 ∈ ids)).length := by
      unfold cntW
      clear ih
      induction E with
      | nil => rfl
      | cons p E ihE =>
        simp only [List.filter_cons]
        by_cases h1 : p.1 = i
        · have h2 : p.1 ∉ ids := by rw [h1]; exact h.1
          simp [h1, h.1]
          simp at ihE
          omega
        · by_cases h2 : p.1 ∈ ids
          · simp [h1, h2]
            simp at ihE
            omega
          · simp [h1, h2]
            simp at ihE
            omega
    omega
theorem tells_g {E : List KE} (hE : ∀ p ∈ E, chk p.2 = 0) {g g' : GV} {ids : List Int} {ws : List (Int × List TL)} (h : Tells E g ids ws g') : ∀ {c : Nat}, (∀ x v, g x = some v → v.natAbs ≤ c * 1000000000000000000) →
    ∀ x v, g' x = some v → v.natAbs ≤ (c + (ids.map (cntW E)).sum) * 1000000000000000000 := by
  induction h with
  | nil g => intro c hc x v hv; simpa using hc x v hv
  | @cons g id ids T ws g' h t ih =>
    intro c hc x v hv
    have h1 : ∀ x v, gNext E g id x = some v → v.natAbs ≤ (c + cntW E id) * 1000000000000000000 := by
      intro x v hv
      unfold gNext at hv
      split at hv
      · obtain rfl := Option.some.inj hv
        have hk := tkOf_ok hE id (2, x)
        have hb : ((g x).getD 0).natAbs ≤ c * 1000000000000000000 := by
          cases hg : g x with
          | none => simp
          | some u => simpa using hc x u hg
        exact Nat.le_trans (ok_sum hk hb) (Nat.mul_le_mul_right _ (Nat.add_le_add_left (cntM_le E id (2, x)) c))
      · exact Nat.le_trans (hc x v hv) (Nat.mul_le_mul_right _ (Nat.le_add_right c _))
    rw [List.map_cons, List.sum_cons, ← Nat.add_assoc]
    exact ih h1 x v hv
theorem AgE.ok_close {M : Nat} {A A' : AgE} {id : Int} {ws : List (Int × List TL)} (h : A.ok M) (hc : Closes A id ws A') : A'.ok M := by
  unfold Closes at hc
  split at hc
  · rw [hc.2]; exact h
  · rename_i hb
    obtain ⟨ids, g', h1, h2, rfl⟩ := hc
    obtain ⟨e1, e2, c, e3, e4⟩ := h
    refine ⟨fun p hp => e1 p (List.mem_filter.1 hp).1, fun p hp => by simpa using (List.mem_filter.1 hp).2, c + (ids.map (cntW A.E)).sum, ?_, tells_g e1 h2 e4⟩
    have hn : ids.Nodup := h1.rise.imp (fun h => by omega)
    have k1 := cntW_sum A.E ids hn
    have k2 : (A.E.filter fun p => decide (p.1 ∈ ids)).length + (A.E.filter fun p => decide (id < p.1)).length ≤ A.E.length := by
      have hd : ∀ i ∈ ids, i ≤ id := fun i hi => ((h1.mem i).1 hi).1
      generalize A.E = E
      induction E with
      | nil => simp
      | cons p E ih =>
        simp only [List.filter_cons, List.length_cons]
        by_cases g1 : p.1 ∈ ids
        · have := hd _ g1
          have g2 : ¬ id < p.1 := by omega
          simp [g1, g2]
          simp at ih
          omega
        · by_cases g2 : id < p.1
          · simp [g1, g2]
            simp at ih
            omega
          · simp [g1, g2]
            simp at ih
            omega
    show c + _ + (A.E.filter fun p => decide (id < p.1)).length ≤ M
    omega
end Go.Proofs.YthbjpoiolmlpmaaGreatDoor
namespace Go.Proofs.YthbjpoiolmlpmaaGreatDoor
theorem Tells.snoc {E : List KE} {g g' : GV} {ids : List Int} {ws : List (Int × List TL)} (h : Tells E g ids ws g') : ∀ {id : Int} {T : List TL}, Told E g' id T → Tells E g (ids ++ [id]) (ws ++ [(id, T)]) (gNext E g' id) := by
  induction h with
  | nil g => intro id T k; exact .cons k (.nil _)
  | cons h t ih => intro id T k; exact .cons h (ih k)
theorem perm_lift {α β : Type} (f : α → β) {l' m : List β} (h : l'.Perm m) : ∀ {l : List α}, m = l.map f → ∃ l2 : List α, l2.Perm l ∧ l2.map f = l' := by
  induction h with
  | nil =>
    intro l e
    obtain rfl : l = [] := by simpa using e.symm
    exact ⟨[], .refl _, rfl⟩
  | cons x h ih =>
    intro l e
    cases l with
    | nil => simp at e
    | cons a l =>
      rw [List.map_cons] at e
      injection e with e1 e2
      obtain ⟨l2, k1, k2⟩ := ih e2
      exact ⟨a :: l2, k1.cons a, by rw [List.map_cons, k2, e1]⟩
  | swap x y l0 =>
    intro l e
    match l, e with
    | a :: b :: l, e =>
      simp only [List.map_cons, List.cons.injEq] at e
      obtain ⟨e1, e2, e3⟩ := e
      exact ⟨b :: a :: l, List.Perm.swap _ _ _, by simp [e1, e2, e3]⟩
    | [], e => simp at e
    | [a], e => simp at e
  | trans h1 h2 ih1 ih2 =>
    intro l e
    obtain ⟨l2, k1, k2⟩ := ih2 e
    obtain ⟨l3, k3, k4⟩ := ih1 k2.symm
    exact ⟨l3, k3.trans k1, k4⟩
/-- A window's tallies out of what its takers told. -/
theorem MeansT.told {E : List KE} {id : Int} {ts : List (Met × TK)} (h : MeansT E id ts) {g : GV} {T : List TL} (hp : T.Perm (ts.map fun q => q.2.tl q.1 ((g q.1.2).getD 0))) (hr : (T.map TL.met).Pairwise fun a b => ltM a b = true) : Told E g id T := by
  refine ⟨hr, fun m => ?_, fun t ht => ?_⟩
  · rw [← h.mets m, (hp.map TL.met).mem_iff, List.map_map]
    rfl
  · obtain ⟨q, hq, rfl⟩ := List.mem_map.1 (hp.mem_iff.1 ht)
    show _ = tlOf E g id q.1
    unfold tlOf
    rw [h.tk q hq]
/-- The gauges, by the takers. -/
theorem MeansT.next {E : List KE} {id : Int} {ts : List (Met × TK)} (h : MeansT E id ts) (g : GV) (x : ByteArray) : gNext E g id x = match ts.find? fun q => decide (q.1 = (2, x)) with | some q => some (q.2.sum ((g x).getD 0)) | none => g x := by
  unfold gNext
  cases hf : ts.find? fun q => decide (q.1 = (2, x)) with
  | none =>
    rw [if_neg]
    intro hc
    have hm := (h.mets (2, x)).2 (List.any_eq_true.1 hc)
    obtain ⟨q, hq, e⟩ := List.mem_map.1 hm
    have := List.find?_eq_none.1 hf q hq
    simp [e] at this
  | some q =>
    have hq := List.mem_of_find?_eq_some hf
    have e : q.1 = (2, x) := by simpa using List.find?_some hf
    rw [if_pos (List.any_eq_true.2 ((h.mets _).1 (by rw [← e]; exact List.mem_map_of_mem hq)))]
    show some _ = some (q.2.sum _)
    rw [h.tk q hq, e]
theorem idsTo_take {E : List KE} {id : Int} {l : List Int} {j : Nat} (hs : l.Pairwise (· < ·)) (hm : ∀ i, i ∈ l ↔ ∃ p ∈ E, p.1 = i) (h1 : ∀ i ∈ l.take j, i ≤ id) (h2 : ∀ i ∈ l.drop j, id < i) : IdsTo E id (l.take j) := by
  refine ⟨List.Pairwise.sublist (List.take_sublist j l) hs, fun i => ?_⟩
  constructor
  · intro hi
    exact ⟨h1 i hi, (hm i).1 (List.mem_of_mem_take hi)⟩
  · rintro ⟨a, b⟩
    have := (hm i).2 b
    rw [← List.take_append_drop j l] at this
    rcases List.mem_append.1 this with k | k
    · exact k
    · have := h2 i k
      omega
end Go.Proofs.YthbjpoiolmlpmaaGreatDoor
namespace Go.Proofs.YthbjpoiolmlpmaaGreatDoor
/-- Over windows that cover all: the parts together. -/
theorem sum_ids {α : Type} (w : α → Int) (f : α → Int) : ∀ (E : List α) (ids : List Int), ids.Nodup → (∀ p ∈ E, w p ∈ ids) → (ids.map fun i => ((E.filter fun p => decide (w p = i)).map f).sum).sum = (E.map f).sum
  | [], ids, _, _ => by
    simp only [List.filter_nil, List.map_nil, List.sum_nil]
    induction ids with
    | nil => rfl
    | cons i ids ih => simp_all
  | p :: E, ids, hn, hc => by
    have ih := sum_ids w f E ids hn (fun q hq => hc q (List.mem_cons_of_mem _ hq))
    have key : ∀ ids : List Int, ids.Nodup → (ids.map fun i => (((p :: E).filter fun p => decide (w p = i)).map f).sum).sum = (if w p ∈ ids then f p else 0) + (ids.map fun i => ((E.filter fun p => decide (w p = i)).map f).sum).sum := by
      intro ids hn
      clear hc ih
      induction ids with
      | nil => simp
      | cons i ids ih2 =>
        rw [List.nodup_cons] at hn
        rw [List.map_cons, List.sum_cons, List.map_cons, List.sum_cons, ih2 hn.2]
        simp only [List.filter_cons]
        by_cases h1 : w p = i
        · subst h1
          simp [hn.1]
          omega
        · simp [h1]
          omega
    rw [key ids hn, if_pos (hc p (by simp)), ih]
    simp
theorem sum_filter_eq {α : Type} (p : α → Bool) (f : α → Int) (l : List α) : ((l.filter p).map f).sum = (l.map fun x => if p x = true then f x else 0).sum := by
  induction l with
  | nil => rfl
  | cons a l ih =>
    simp only [List.filter_cons, List.map_cons, List.sum_cons]
    by_cases h : p a = true
    · simp [h, ih]
    · simp [h, ih]
theorem inM_filter (E : List KE) (id : Int) (m : Met) : E.filter (inM id m) = (E.filter fun p => decide (met p.2 = m)).filter fun p => decide (p.1 = id) := by
  rw [List.filter_filter]
  rfl
theorem sum_ids_met (f : KE → Int) (m : Met) (E : List KE) (ids : List Int) (hn : ids.Nodup) (hc : ∀ p ∈ E, p.1 ∈ ids) : (ids.map fun i => ((E.filter (inM i m)).map f).sum).sum = ((E.filter fun p => decide (met p.2 = m)).map f).sum := by
  rw [← sum_ids (fun p : KE => p.1) f _ ids hn (fun p hp => hc p (List.mem_filter.1 hp).1)]
  congr 1
  exact List.map_congr_left (fun i _ => by rw [inM_filter])
theorem filter_key {α κ : Type} [DecidableEq κ] (f : α → κ) : ∀ (l : List α), (l.map f).Nodup → ∀ t ∈ l, l.filter (fun x => decide (f x = f t)) = [t]
  | [], _, t, ht => by cases ht
  | a :: l, hn, t, ht => by
    rw [List.map_cons, List.nodup_cons] at hn
    rw [List.filter_cons]
    rcases List.mem_cons.1 ht with rfl | ht
    · rw [if_pos (by simp), List.filter_eq_nil_iff.2 (fun x hx e => hn.1 (by rw [← show f x = f t by simpa using e]; exact List.mem_map_of_mem hx))]
    · rw [if_neg (by simpa using fun e : f a = f t => hn.1 (by rw [e]; exact List.mem_map_of_mem ht)), filter_key f l hn.2 t ht]
/-- A told window's tally of a metric. -/
theorem Told.at_ {E : List KE} {g : GV} {id : Int} {T : List TL} (h : Told E g id T) (m : Met) : T.filter (fun t => decide (t.met = m)) = if E.any (inM id m) = true then [tlOf E g id m] else [] := by
  have hn : (T.map TL.met).Nodup := h.rise.imp (fun {a b} hab e => by subst e; rw [ltM_irrefl] at hab; cases hab)
  by_cases hm : ∃ p ∈ E, inM id m p = true
  · rw [if_pos (List.any_eq_true.2 hm)]
    obtain ⟨t, ht, rfl⟩ := List.mem_map.1 ((h.mem m).2 hm)
    rw [filter_key TL.met T hn t ht]
    conv => lhs; rw [h.eq t ht]
  · rw [if_neg (fun e => hm (List.any_eq_true.1 e))]
    refine List.filter_eq_nil_iff.2 fun t ht e => hm ((h.mem m).1 ?_)
    rw [← show t.met = m by simpa using e]
    exact List.mem_map_of_mem ht
theorem fold_cnt (l : List KE) : ∀ n s, l.foldl (fun k p => TK.take p.2 k) (TK.cnt n s) = .cnt (n + l.length) (s + (l.map fun p => scl p.2.value p.2.rate).sum) := by
  induction l with
  | nil => intro n s; simp
  | cons p l ih =>
    intro n s
    rw [List.foldl_cons]
    show l.foldl _ (TK.cnt (n + 1) (s + scl p.2.value p.2.rate)) = _
    rw [ih]
    simp
    omega
theorem tkOf_cnt (E : List KE) (id : Int) (n : ByteArray) : tkOf E id (1, n) = .cnt (E.filter (inM id (1, n))).length ((E.filter (inM id (1, n))).map fun p => scl p.2.value p.2.rate).sum := by
  unfold tkOf
  rw [show freshK ((1, n) : Met).1 = .cnt 0 0 from rfl, fold_cnt]
  simp
theorem fold_n (l : List KE) : ∀ k : TK, (l.foldl (fun k p => TK.take p.2 k) k).n = k.n + l.length := by
  induction l with
  | nil => intro k; simp
  | cons p l ih =>
    intro k
    rw [List.foldl_cons, ih, List.length_cons]
    have : (k.take p.2).n = k.n + 1 := by
      cases k with
      | cnt n s => rfl
      | gau n st v => cases hd : p.2.delta <;> simp [TK.take, TK.n, hd]
      | tim s sw xs => simp [TK.take, TK.n]
      | set n ms => rfl
    rw [this]
    omega
theorem fresh_n (k : Int) : (freshK k).n = 0 := by
  unfold freshK
  split
  · rfl
  · split
    · rfl
    · split <;> rfl
theorem tkOf_n (E : List KE) (id : Int) (m : Met) : (tkOf E id m).n = (E.filter (inM id m)).length := by
  unfold tkOf
  rw [fold_n, fresh_n, Int.zero_add]
/-- Of a window: all its events are counted. -/
theorem Told.counts {E : List KE} {g : GV} {id : Int} {T : List TL} (h : Told E g id T) : (T.map TL.c).sum = (cntW E id : Nat) := by
  have hn : (T.map TL.met).Nodup := h.rise.imp (fun {a b} hab e => by subst e; rw [ltM_irrefl] at hab; cases hab)
  have h1 : T.map TL.c = (T.map TL.met).map fun m => ((E.filter (inM id m)).length : Int) := by
    rw [List.map_map]
    refine List.map_congr_left fun t ht => ?_
    rw [h.eq t ht]
    show (tkOf E id t.met).n = _
    rw [tkOf_n]
    rfl
  rw [h1]
  have hc : ∀ p ∈ E.filter (fun p => decide (p.1 = id)), met p.2 ∈ T.map TL.met := fun p hp => by
    obtain ⟨p1, p2⟩ := List.mem_filter.1 hp
    exact (h.mem _).2 ⟨p, p1, by simpa [inM] using p2⟩
  have key : ∀ (l : List KE) (ms : List Met), ms.Nodup → (∀ p ∈ l, met p.2 ∈ ms) → (ms.map fun m => ((l.filter fun p => decide (met p.2 = m)).length : Int)).sum = l.length := by
    intro l ms hn hc
    induction l with
    | nil =>
      clear hn hc
      induction ms with
      | nil => rfl
      | cons a ms ih => simpa using ih
    | cons p l ih =>
      have ih := ih (fun q hq => hc q (List.mem_cons_of_mem _ hq))
      have hp := hc p (by simp)
      classical
      have step : ∀ ms : List Met, ms.Nodup → (ms.map fun m => (((p :: l).filter fun p => decide (met p.2 = m)).length : Int)).sum = (if met p.2 ∈ ms then 1 else 0) + (ms.map fun m => ((l.filter fun p => decide (met p.2 = m)).length : Int)).sum := by
        intro ms hn
        induction ms with
        | nil => simp
        | cons a ms ih2 =>
          rw [List.nodup_cons] at hn
          rw [List.map_cons, List.sum_cons, List.map_cons, List.sum_cons, ih2 hn.2]
          simp only [List.filter_cons]
          by_cases h1 : met p.2 = a
          · subst h1
            simp [hn.1]
            omega
          · simp [h1]
            omega
      rw [step ms hn, if_pos hp, ih]
      simp
      omega
  have := key _ _ hn hc
  unfold cntW
  rw [← this]
  congr 1
  refine List.map_congr_left fun m _ => ?_
  rw [List.filter_filter]
  congr 3
  funext p
  unfold inM
  rw [Bool.and_comm]
end Go.Proofs.YthbjpoiolmlpmaaGreatDoor
namespace Go.Proofs.YthbjpoiolmlpmaaGreatDoor
theorem fold_tim (l : List KE) : ∀ s sw xs, l.foldl (fun k p => TK.take p.2 k) (TK.tim s sw xs) = .tim (s + (l.map fun p => p.2.value).sum) (sw + (l.map fun p => scl 1000000 p.2.rate).sum) (xs ++ l.map fun p => p.2.value) := by
  induction l with
  | nil => intro s sw xs; simp
  | cons p l ih =>
    intro s sw xs
    rw [List.foldl_cons]
    show l.foldl _ (TK.tim (s + p.2.value) (sw + scl 1000000 p.2.rate) (xs ++ [p.2.value])) = _
    rw [ih]
    simp
    omega
theorem tkOf_tim (E : List KE) (id : Int) (n : ByteArray) : tkOf E id (3, n) = .tim ((E.filter (inM id (3, n))).map fun p => p.2.value).sum ((E.filter (inM id (3, n))).map fun p => scl 1000000 p.2.rate).sum ((E.filter (inM id (3, n))).map fun p => p.2.value) := by
  unfold tkOf
  rw [show freshK ((3, n) : Met).1 = .tim 0 0 [] from rfl, fold_tim]
  simp
def addMs (ms : List ByteArray) (l : List ByteArray) : List ByteArray := l.foldl addM ms
theorem fold_set (l : List KE) : ∀ n ms, l.foldl (fun k p => TK.take p.2 k) (TK.set n ms) = .set (n + l.length) (addMs ms (l.map fun p => p.2.member)) := by
  induction l with
  | nil => intro n ms; simp [addMs]
  | cons p l ih =>
    intro n ms
    rw [List.foldl_cons]
    show l.foldl _ (TK.set (n + 1) (addM ms p.2.member)) = _
    rw [ih]
    simp [addMs]
    omega
theorem tkOf_set (E : List KE) (id : Int) (n : ByteArray) : tkOf E id (4, n) = .set (E.filter (inM id (4, n))).length (addMs [] ((E.filter (inM id (4, n))).map fun p => p.2.member)) := by
  unfold tkOf
  rw [show freshK ((4, n) : Met).1 = .set 0 [] from rfl, fold_set]
  simp
theorem addM_mem (ms : List ByteArray) (x y : ByteArray) : y ∈ addM ms x ↔ y ∈ ms ∨ y = x := by
  unfold addM
  split
  · rename_i h
    have : x ∈ ms := hasM_iff.1 h
    constructor
    · exact .inl
    · rintro (h | rfl)
      · exact h
      · exact this
  · simp
theorem addM_nodup {ms : List ByteArray} (h : ms.Nodup) (x : ByteArray) : (addM ms x).Nodup := by
  unfold addM
  split
  · exact h
  · rename_i hn
    have : x ∉ ms := fun h => hn (hasM_iff.2 h)
    rw [List.nodup_append]
    refine ⟨h, by simp, fun a ha b hb => ?_⟩
    simp at hb
    subst hb
    exact fun e => this (e ▸ ha)
theorem addMs_mem : ∀ (l ms : List ByteArray) (y : ByteArray), y ∈ addMs ms l ↔ y ∈ ms ∨ y ∈ l
  | [], ms, y => by simp [addMs]
  | x :: l, ms, y => by
    show y ∈ addMs (addM ms x) l ↔ _
    rw [addMs_mem l, addM_mem, List.mem_cons, or_assoc]
theorem addMs_nodup : ∀ (l ms : List ByteArray), ms.Nodup → (addMs ms l).Nodup
  | [], ms, h => h
  | x :: l, ms, h => addMs_nodup l _ (addM_nodup h x)
theorem addMs_len : ∀ (l ms : List ByteArray), (addMs ms l).length ≤ ms.length + l.length
  | [], ms => by simp [addMs]
  | x :: l, ms => by
    have := addMs_len l (addM ms x)
    have h2 := addM_len ms x
    show (addMs (addM ms x) l).length ≤ _
    simp only [List.length_cons]
    omega
theorem sortI_pw (l : List Int) : (sortI l).Pairwise (· ≤ ·) := by
  have := List.pairwise_mergeSort (le := fun (x y : Int) => decide (x ≤ y)) (fun a b c h1 h2 => by simp at *; omega) (fun a b => by simp; omega) l
  exact this.imp (fun h => by simpa using h)
theorem sortI_mem_perm (l : List Int) : (sortI l).Perm l := List.mergeSort_perm _ _
theorem sum_perm {a b : List Int} (h : a.Perm b) : a.sum = b.sum := by
  induction h with
  | nil => rfl
  | cons x h ih => simp [ih]
  | swap x y l => simp; omega
  | trans h1 h2 ih1 ih2 => exact ih1.trans ih2
theorem sortI_sum (l : List Int) : (sortI l).sum = l.sum := sum_perm (sortI_mem_perm l)
theorem bytes_eta (b : ByteArray) : (⟨b.data.toList.toArray⟩ : ByteArray) = b := by simp
theorem sortS_perm0 (l : List ByteArray) : (sortS l).Perm l := by
  unfold sortS
  have h := (List.mergeSort_perm (l.map fun b => b.data.toList) fun x y => decide (x ≤ y)).map (fun l => (⟨l.toArray⟩ : ByteArray))
  rw [List.map_map] at h
  refine h.trans (.of_eq ?_)
  conv => rhs; rw [← List.map_id l]
  exact List.map_congr_left (fun b _ => by simp)
theorem sortS_pw {l : List ByteArray} (hn : l.Nodup) : (sortS l).Pairwise fun a b => sLt a b = true := by
  have h1 : ((l.map fun b => b.data.toList).mergeSort fun x y => decide (x ≤ y)).Pairwise (fun x y => x ≤ y) := by
    have := List.pairwise_mergeSort (le := fun (x y : List UInt8) => decide (x ≤ y)) (fun a b c h1 h2 => by
      simp only [decide_eq_true_eq] at *
      exact Std.le_trans h1 h2) (fun a b => by
      simp only [Bool.or_eq_true, decide_eq_true_eq]
      exact Std.le_total) (l.map fun b => b.data.toList)
    exact this.imp (fun h => by simpa using h)
  have h2 : ((l.map fun b => b.data.toList).mergeSort fun x y => decide (x ≤ y)).Nodup := by
    refine (List.mergeSort_perm _ _).nodup_iff.2 ?_
    refine List.Pairwise.map _ (fun a b hab e => hab ?_) hn
    exact Go.WideShapes.bytes_inj e
  unfold sortS
  refine List.Pairwise.map _ (fun a b hab => ?_) (h1.and h2)
  rw [sLt_eq, decide_eq_true_eq]
  show (⟨a.toArray⟩ : ByteArray).toList < (⟨b.toArray⟩ : ByteArray).toList
  rw [show (⟨a.toArray⟩ : ByteArray).toList = a by simp [ByteArray.toList_eq], show (⟨b.toArray⟩ : ByteArray).toList = b by simp [ByteArray.toList_eq]]
  exact Std.lt_of_le_of_ne hab.1 hab.2
theorem scl_unit {r : Int} (h : 1000 ≤ r ∧ r ≤ 1000000) : 1000000 ≤ scl 1000000 r := by
  unfold scl
  rw [Int.tdiv_eq_ediv_of_nonneg (by omega)]
  exact (Int.le_ediv_iff_mul_le (by omega)).2 (by omega)
theorem sum_ge (l : List Int) (k : Int) (h : ∀ x ∈ l, k ≤ x) : k * l.length ≤ l.sum := by
  induction l with
  | nil => simp
  | cons a l ih =>
    have h1 := h a (by simp)
    have h2 := ih (fun x hx => h x (List.mem_cons_of_mem _ hx))
    rw [List.length_cons, List.sum_cons, show ((l.length + 1 : Nat) : Int) = (l.length : Int) + 1 from rfl, Int.mul_add, Int.mul_one]
    omega
theorem told_pos {E : List KE} {g : GV} {id : Int} {T : List TL} (h : Told E g id T) {t : TL} (ht : t ∈ T) : 1 ≤ (E.filter (inM id t.met)).length := by
  obtain ⟨p, hp, hm⟩ := (h.mem t.met).1 (List.mem_map_of_mem ht)
  exact List.length_pos_of_mem (List.mem_filter.2 ⟨hp, hm⟩)
/-- A timer's tally. -/
theorem told_tim {E : List KE} (hE : ∀ p ∈ E, chk p.2 = 0) {g : GV} {id : Int} {T : List TL} (h : Told E g id T) {t : TL} (ht : t ∈ T) (hk : t.k = 3) :
    t.smp.Pairwise (· ≤ ·) ∧ t.smp.sum = t.sum ∧ (t.smp.length : Int) = t.c ∧ t.c * 1000000 ≤ t.wt := by
  have e := h.eq t ht
  rw [show t.met = (3, t.n) from by unfold TL.met; rw [hk]] at e
  unfold tlOf at e
  rw [tkOf_tim] at e
  rw [e]
  refine ⟨sortI_pw _, sortI_sum _, by show ((sortI _).length : Int) = _; rw [sortI_len]; simp [TK.tl, TK.n], ?_⟩
  have := sum_ge ((E.filter (inM id (3, t.n))).map fun p => scl 1000000 p.2.rate) 1000000 (fun x hx => by
    obtain ⟨p, hp, rfl⟩ := List.mem_map.1 hx
    exact scl_unit (chk_ok (hE p (List.mem_filter.1 hp).1)).2.2)
  show ((List.map _ _).length : Int) * 1000000 ≤ _
  simp only [List.length_map] at this ⊢
  rw [Int.mul_comm]
  exact this
/-- A set's tally. -/
theorem told_set {E : List KE} {g : GV} {id : Int} {T : List TL} (h : Told E g id T) {t : TL} (ht : t ∈ T) (hk : t.k = 4) :
    t.mem.Pairwise (fun a b => sLt a b = true) ∧ 1 ≤ t.mem.length ∧ (t.mem.length : Int) ≤ t.c := by
  have e := h.eq t ht
  have hm : t.met = (4, t.n) := by unfold TL.met; rw [hk]
  have hp := told_pos h ht
  rw [hm] at e hp
  unfold tlOf at e
  rw [tkOf_set] at e
  rw [e]
  have e1 : (addMs [] ((E.filter (inM id (4, t.n))).map fun p => p.2.member)).length ≤ (E.filter (inM id (4, t.n))).length := by
    have := addMs_len ((E.filter (inM id (4, t.n))).map fun p => p.2.member) []
    simpa using this
  have e2 : 1 ≤ (addMs [] ((E.filter (inM id (4, t.n))).map fun p => p.2.member)).length := by
    obtain ⟨p, hp⟩ := List.exists_mem_of_length_pos hp
    exact List.length_pos_of_mem ((addMs_mem _ _ _).2 (.inr (List.mem_map_of_mem hp)))
  refine ⟨sortS_pw (addMs_nodup _ _ .nil), ?_, ?_⟩
  · show 1 ≤ (sortS _).length
    rw [sortS_len]
    exact e2
  · show ((sortS _).length : Int) ≤ ((E.filter (inM id (4, t.n))).length : Int)
    rw [sortS_len]
    omega
/-- The same events of each metric: the same is told. -/
def SameTl (E E' : List KE) : Prop := ∀ id m, (E.any (inM id m) = E'.any (inM id m)) ∧ (E.any (inM id m) = true → ∀ b, (tkOf E id m).tl m b = (tkOf E' id m).tl m b)
theorem SameTl.told {E E' : List KE} (hs : SameTl E E') {g : GV} {id : Int} {T : List TL} (h : Told E g id T) : Told E' g id T := by
  refine ⟨h.rise, fun m => ?_, fun t ht => ?_⟩
  · rw [h.mem m, ← List.any_eq_true, ← List.any_eq_true, (hs id m).1]
  · have hm := List.any_eq_true.2 ((h.mem t.met).1 (List.mem_map_of_mem ht))
    rw [h.eq t ht]
    exact (hs id t.met).2 hm _
theorem SameTl.next {E E' : List KE} (hs : SameTl E E') (g : GV) (id : Int) : gNext E g id = gNext E' g id := by
  funext x
  unfold gNext
  rw [← (hs id (2, x)).1]
  split
  · rename_i h
    have := (hs id (2, x)).2 h ((g x).getD 0)
    exact congrArg some (congrArg TL.sum this)
  · rfl
theorem SameTl.tells {E E' : List KE} (hs : SameTl E E') {g g' : GV} {ids : List Int} {ws : List (Int × List TL)} (h : Tells E g ids ws g') : Tells E' g ids ws g' := by
  induction h with
  | nil g => exact .nil g
  | cons h t ih => rw [hs.next] at ih; exact .cons (hs.told h) ih
/-- Two neighbours change places. -/
theorem swap_same (a b : List KE) (p q : KE) (hk : ∀ r ∈ a ++ p :: q :: b, chk r.2 = 0) (hg : ¬ (p.2.kind = 2 ∧ q.2.kind = 2 ∧ p.2.name = q.2.name ∧ p.1 = q.1)) : SameTl (a ++ p :: q :: b) (a ++ q :: p :: b) := by
  intro id m
  have hany : ∀ f : KE → Bool, (a ++ p :: q :: b).any f = (a ++ q :: p :: b).any f := fun f => by
    simp only [List.any_append, List.any_cons]
    rw [Bool.or_left_comm (f p)]
  refine ⟨hany _, fun hm c => ?_⟩
  by_cases h1 : inM id m p = true ∧ inM id m q = true
  · obtain ⟨p1, p2⟩ := inM_iff.1 h1.1
    obtain ⟨q1, q2⟩ := inM_iff.1 h1.2
    have hpk := (chk_ok (hk p (by simp))).1
    have hpm : p.2.kind = m.1 := by rw [← p2]; rfl
    have hper : ((a ++ p :: q :: b).filter (inM id m)).Perm ((a ++ q :: p :: b).filter (inM id m)) := (List.Perm.append_left a (List.Perm.swap q p b)).filter _
    obtain ⟨mk, mn⟩ := m
    simp only at hpm
    have hne : mk ≠ 2 := fun e => hg ⟨hpm.trans e, by have := congrArg Prod.fst q2; simp only [met] at this; rw [this, e], by
      have e1 := congrArg Prod.snd p2; have e2 := congrArg Prod.snd q2; simp only [met] at e1 e2; rw [e1, e2], p1.trans q1.symm⟩
    have h4 : mk = 1 ∨ mk = 3 ∨ mk = 4 := by omega
    rcases h4 with rfl | rfl | rfl
    · rw [tkOf_cnt, tkOf_cnt, hper.length_eq, sum_perm (hper.map _)]
    · rw [tkOf_tim, tkOf_tim]
      unfold TK.tl TK.n TK.sum TK.wt TK.smp TK.mem
      simp only
      rw [(hper.map _).length_eq, sum_perm (hper.map fun p : KE => p.2.value), sum_perm (hper.map fun p : KE => scl 1000000 p.2.rate), sortI_perm (hper.map fun p : KE => p.2.value)]
    · rw [tkOf_set, tkOf_set]
      unfold TK.tl TK.n TK.sum TK.wt TK.smp TK.mem
      simp only
      have hp2 : (addMs [] (((a ++ p :: q :: b).filter (inM id (4, mn))).map fun p => p.2.member)).Perm (addMs [] (((a ++ q :: p :: b).filter (inM id (4, mn))).map fun p => p.2.member)) := by
        refine (List.perm_ext_iff_of_nodup (addMs_nodup _ _ .nil) (addMs_nodup _ _ .nil)).2 fun y => ?_
        rw [addMs_mem, addMs_mem, (hper.map _).mem_iff]
      rw [hper.length_eq, sortS_perm hp2]
  · have hf : (a ++ p :: q :: b).filter (inM id m) = (a ++ q :: p :: b).filter (inM id m) := by
      simp only [List.filter_append, List.filter_cons]
      congr 1
      by_cases g1 : inM id m p = true
      · have g2 : ¬ inM id m q = true := fun e => h1 ⟨g1, e⟩
        simp [g1, g2]
      · simp [g1]
    unfold tkOf
    rw [hf]
end Go.Proofs.YthbjpoiolmlpmaaGreatDoor
namespace Go.Proofs.YthbjpoiolmlpmaaGreatDoor
/-- Over all windows told: what the tallies of a metric say, together. -/
theorem tells_sum {E : List KE} (m : Met) (f : TL → Int) (F : Int → Int) (hF : ∀ g id T, Told E g id T → ((T.filter fun t => decide (t.met = m)).map f).sum = F id) {g g' : GV} {ids : List Int} {ws : List (Int × List TL)} (h : Tells E g ids ws g') :
    (ws.map fun w => ((w.2.filter fun t => decide (t.met = m)).map f).sum).sum = (ids.map F).sum := by
  induction h with
  | nil => rfl
  | cons h t ih => rw [List.map_cons, List.sum_cons, List.map_cons, List.sum_cons, ih, hF _ _ _ h]
theorem IdsTo.cover {E : List KE} {id : Int} {ids : List Int} (h : IdsTo E id ids) (hc : ∀ p ∈ E, p.1 ≤ id) : ids.Nodup ∧ ∀ p ∈ E, p.1 ∈ ids :=
  ⟨h.rise.imp (fun h => by omega), fun p hp => (h.mem _).2 ⟨hc p hp, p, hp, rfl⟩⟩
theorem told_cnt {E : List KE} (n : ByteArray) (g : GV) (id : Int) (T : List TL) (h : Told E g id T) : ((T.filter fun t => decide (t.met = (1, n))).map TL.sum).sum = ((E.filter (inM id (1, n))).map fun p => scl p.2.value p.2.rate).sum := by
  rw [h.at_]
  split
  · simp [tlOf, TK.tl, tkOf_cnt, TK.sum]
  · rename_i hn
    rw [List.filter_eq_nil_iff.2 (fun p hp e => hn (List.any_eq_true.2 ⟨p, hp, e⟩))]
    rfl
theorem told_num {E : List KE} (m : Met) (g : GV) (id : Int) (T : List TL) (h : Told E g id T) : ((T.filter fun t => decide (t.met = m)).map TL.c).sum = ((E.filter (inM id m)).map fun _ => (1 : Int)).sum := by
  rw [h.at_]
  have one : ∀ l : List KE, (l.map fun _ => (1 : Int)).sum = l.length := fun l => by
    induction l with
    | nil => rfl
    | cons a l ih => rw [List.map_cons, List.sum_cons, ih, List.length_cons]; omega
  split
  · simp only [List.map_cons, List.map_nil, List.sum_cons, List.sum_nil, Int.add_zero]
    show (tkOf E id m).n = _
    rw [tkOf_n, one]
  · rename_i hn
    rw [List.filter_eq_nil_iff.2 (fun p hp e => hn (List.any_eq_true.2 ⟨p, hp, e⟩))]
    rfl
/-- P8.7: the sums of a counter. -/
theorem sums_law {E : List KE} (n : ByteArray) {g g' : GV} {id : Int} {ids : List Int} {ws : List (Int × List TL)} (hi : IdsTo E id ids) (hc : ∀ p ∈ E, p.1 ≤ id) (h : Tells E g ids ws g') :
    (ws.map fun w => ((w.2.filter fun t => decide (t.met = (1, n))).map TL.sum).sum).sum = ((E.filter fun p => decide (met p.2 = (1, n))).map fun p => scl p.2.value p.2.rate).sum ∧
    (ws.map fun w => ((w.2.filter fun t => decide (t.met = (1, n))).map TL.c).sum).sum = ((E.filter fun p => decide (met p.2 = (1, n))).length : Nat) := by
  obtain ⟨h1, h2⟩ := hi.cover hc
  refine ⟨?_, ?_⟩
  · rw [tells_sum (1, n) TL.sum _ (told_cnt n) h, sum_ids_met _ _ _ _ h1 h2]
  · rw [tells_sum (1, n) TL.c _ (told_num (1, n)) h, sum_ids_met _ _ _ _ h1 h2]
    generalize E.filter _ = l
    induction l with
    | nil => rfl
    | cons a l ih => rw [List.map_cons, List.sum_cons, ih, List.length_cons]; omega
/-- A gauge, an event further. -/
def gstep (s : Int) (p : KE) : Int := if p.2.delta = true then s + p.2.value else p.2.value
theorem fold_gau (l : List KE) (b : Int) : ∀ n st v, (l.foldl (fun k p => TK.take p.2 k) (TK.gau n st v)).sum b = l.foldl gstep ((TK.gau n st v).sum b) := by
  induction l with
  | nil => intro n st v; rfl
  | cons p l ih =>
    intro n st v
    rw [List.foldl_cons, List.foldl_cons]
    have : gstep ((TK.gau n st v).sum b) p = (TK.take p.2 (TK.gau n st v)).sum b := by
      cases hd : p.2.delta <;> cases st <;> simp [gstep, TK.take, TK.sum, hd]
      omega
    rw [this]
    cases hd : p.2.delta
    · rw [show TK.take p.2 (TK.gau n st v) = .gau (n + 1) true p.2.value by simp [TK.take, hd]]
      exact ih _ _ _
    · rw [show TK.take p.2 (TK.gau n st v) = .gau (n + 1) st (v + p.2.value) by simp [TK.take, hd]]
      exact ih _ _ _
theorem tkOf_gau (E : List KE) (id : Int) (n : ByteArray) (b : Int) : (tkOf E id (2, n)).sum b = (E.filter (inM id (2, n))).foldl gstep b := by
  unfold tkOf
  rw [show freshK ((2, n) : Met).1 = .gau 0 false 0 from rfl, fold_gau]
  simp [TK.sum]
/-- P8.2: gauges. -/
theorem told_gau {E : List KE} {g : GV} {id : Int} {T : List TL} (h : Told E g id T) {t : TL} (ht : t ∈ T) (hk : t.k = 2) : t.sum = (E.filter (inM id (2, t.n))).foldl gstep ((g t.n).getD 0) := by
  rw [← tkOf_gau]
  have e := h.eq t ht
  rw [show t.met = (2, t.n) from by unfold TL.met; rw [hk]] at e
  rw [e]
  rfl
theorem next_gau (E : List KE) (g : GV) (id : Int) (n : ByteArray) : ((gNext E g id n).getD 0) = (E.filter (inM id (2, n))).foldl gstep ((g n).getD 0) ∧ (gNext E g id n).isSome = ((g n).isSome || !(E.filter (inM id (2, n))).isEmpty) := by
  unfold gNext
  split
  · rename_i h
    obtain ⟨p, hp, hm⟩ := List.any_eq_true.1 h
    have : p ∈ E.filter (inM id (2, n)) := List.mem_filter.2 ⟨hp, hm⟩
    refine ⟨by rw [← tkOf_gau]; rfl, ?_⟩
    cases hl : E.filter (inM id (2, n)) with
    | nil => rw [hl] at this; cases this
    | cons a l => simp
  · rename_i hn
    rw [List.filter_eq_nil_iff.2 (fun p hp e => hn (List.any_eq_true.2 ⟨p, hp, e⟩))]
    simp
/-- P8.8: what is told is counted. -/
theorem tells_count {E : List KE} {g g' : GV} {ids : List Int} {ws : List (Int × List TL)} (h : Tells E g ids ws g') : (ws.map fun w => (w.2.map TL.c).sum).sum = (ids.map fun i => (cntW E i : Int)).sum := by
  induction h with
  | nil => rfl
  | cons h t ih => rw [List.map_cons, List.sum_cons, List.map_cons, List.sum_cons, ih, h.counts]
theorem closes_count {A A' : AgE} {id : Int} {ws : List (Int × List TL)} (h : Closes A id ws A') (ho : ∀ p ∈ A.E, A.bd < p.1) : (ws.map fun w => (w.2.map TL.c).sum).sum + (A'.E.length : Int) = A.E.length := by
  unfold Closes at h
  split at h
  · rw [h.1, h.2]; simp
  · obtain ⟨ids, g', h1, h2, rfl⟩ := h
    rw [tells_count h2]
    have hn : ids.Nodup := h1.rise.imp (fun h => by omega)
    have e1 : (ids.map fun i => (cntW A.E i : Int)).sum = ((A.E.filter fun p => decide (p.1 ≤ id)).length : Int) := by
      have := sum_ids (fun p : KE => p.1) (fun _ => (1 : Int)) (A.E.filter fun p => decide (p.1 ≤ id)) ids hn (fun p hp => by
        obtain ⟨q1, q2⟩ := List.mem_filter.1 hp
        exact (h1.mem _).2 ⟨by simpa using q2, p, q1, rfl⟩)
      have one : ∀ l : List KE, (l.map fun _ => (1 : Int)).sum = l.length := fun l => by
        induction l with
        | nil => rfl
        | cons a l ih => rw [List.map_cons, List.sum_cons, ih, List.length_cons]; omega
      rw [one] at this
      rw [← this]
      congr 1
      refine List.map_congr_left fun i hi => ?_
      rw [one, List.filter_filter]
      unfold cntW
      congr 2
      refine List.filter_congr fun p _ => ?_
      have := ((h1.mem i).1 hi).1
      by_cases e : p.1 = i
      · simp [e, this]
      · simp [e]
    rw [e1]
    show _ + ((A.E.filter fun p => decide (id < p.1)).length : Int) = _
    generalize A.E = l
    induction l with
    | nil => rfl
    | cons p l ih =>
      simp only [List.filter_cons, List.length_cons]
      by_cases e : p.1 ≤ id
      · have e2 : ¬ id < p.1 := by omega
        simp [e, e2]
        omega
      · have e2 : id < p.1 := by omega
        simp [e, e2]
        omega
theorem told_c_pos {E : List KE} {g : GV} {id : Int} {T : List TL} (h : Told E g id T) {t : TL} (ht : t ∈ T) : 1 ≤ t.c := by
  rw [h.eq t ht]
  show 1 ≤ (tkOf E id t.met).n
  rw [tkOf_n]
  have := told_pos h ht
  omega
theorem told_some {E : List KE} {g : GV} {id : Int} {T : List TL} (h : Told E g id T) (hi : ∃ p ∈ E, p.1 = id) : 0 < T.length := by
  obtain ⟨p, hp, e⟩ := hi
  have := (h.mem (met p.2)).2 ⟨p, hp, by simp [inM, e]⟩
  rw [List.mem_map] at this
  obtain ⟨t, ht, _⟩ := this
  exact List.length_pos_of_mem ht
end Go.Proofs.YthbjpoiolmlpmaaGreatDoor
namespace Go.Proofs.YthbjpoiolmlpmaaGreatDoor
def runE (l : List KE) : AgE := l.foldl (fun A p => A.apply p.1 p.2) AgE.new
theorem runE_snoc (l : List KE) (p : KE) : runE (l ++ [p]) = (runE l).apply p.1 p.2 := by simp [runE]
theorem runE_take {l : List KE} {k : Nat} {p : KE} (h : l[k]? = some p) : runE (l.take (k + 1)) = (runE (l.take k)).apply p.1 p.2 := by
  rw [List.take_add_one, h]
  exact runE_snoc _ _
def okRows (l : List KE) : Prop := l.length ≤ 1048576 ∧ ∀ p ∈ l, p.2.name.size ≤ 1048576 ∧ p.2.member.size ≤ 140737488355328
def accB (p : KE) : Bool := decide (acode (-9223372036854775808) p.1 p.2 = 0)
theorem runE_E (l : List KE) : runE l = ⟨l.filter accB, fun _ => none, -9223372036854775808⟩ := by
  have key : ∀ (l E : List KE), l.foldl (fun A p => AgE.apply A p.1 p.2) ⟨E, fun _ => none, -9223372036854775808⟩ = ⟨E ++ l.filter accB, fun _ => none, -9223372036854775808⟩ := by
    intro l
    induction l with
    | nil => intro E; simp
    | cons p l ih =>
      intro E
      rw [List.foldl_cons]
      have : AgE.apply ⟨E, fun _ => none, -9223372036854775808⟩ p.1 p.2 = ⟨E ++ [p].filter accB, fun _ => none, -9223372036854775808⟩ := by
        unfold AgE.apply
        by_cases h : acode (-9223372036854775808) p.1 p.2 = 0
        · simp [h, accB]
        · simp [h, accB]
      rw [this, ih]
      simp only [List.filter_cons, List.append_assoc]
      congr 2
      cases accB p <;> simp
  have := key l []
  rw [List.nil_append] at this
  exact this
abbrev mxI : Int := 9223372036854775807
theorem runE_closes {l : List KE} {ws : List (Int × List TL)} {A' : AgE} (h : Closes (runE l) mxI ws A') : ∃ ids, IdsTo (l.filter accB) mxI ids ∧ Tells (l.filter accB) (fun _ => none) ids ws A'.g := by
  rw [runE_E] at h
  unfold Closes at h
  rw [if_neg (show ¬ mxI ≤ -9223372036854775808 by decide)] at h
  obtain ⟨ids, g', h1, h2, rfl⟩ := h
  exact ⟨ids, h1, h2⟩
theorem acc_ok {l : List KE} : ∀ p ∈ l.filter accB, chk p.2 = 0 := fun p hp => (acode_ok (of_decide_eq_true (List.mem_filter.1 hp).2)).1
theorem nodup_leA {α : Type} {l : List α} : ∀ {m : List α}, l.Nodup → (∀ x ∈ l, x ∈ m) → l.length ≤ m.length := by
  induction l with
  | nil => intro m _ _; simp
  | cons a l ih =>
    intro m hn hs
    rw [List.nodup_cons] at hn
    obtain ⟨m1, m2, rfl⟩ := List.append_of_mem (hs a (by simp))
    have := ih (m := m1 ++ m2) hn.2 (fun x hx => by
      have := hs x (List.mem_cons_of_mem _ hx)
      simp at this ⊢
      rcases this with h | rfl | h
      · exact .inl h
      · exact absurd hx hn.1
      · exact .inr h)
    simp at this ⊢
    omega
theorem few_law {l : List KE} {ws : List (Int × List TL)} {A' : AgE} (h : Closes (runE l) mxI ws A') : ws.length ≤ l.length := by
  obtain ⟨ids, h1, h2⟩ := runE_closes h
  have e := congrArg List.length h2.ids
  rw [List.length_map] at e
  have := nodup_leA (m := (l.filter accB).map (·.1)) (h1.rise.imp (fun h => by omega)) (fun i hi => by
    obtain ⟨_, p, hp, e⟩ := (h1.mem i).1 hi
    exact e ▸ List.mem_map_of_mem hp)
  rw [List.length_map] at this
  have := List.length_filter_le accB l
  omega
/-- P8.5: neighbours change places. -/
theorem orders_law {a b : List KE} {p q : KE} {ws ws' : List (Int × List TL)} {A' A'' : AgE} (h : Closes (runE (a ++ p :: q :: b)) mxI ws A') (h' : Closes (runE (a ++ q :: p :: b)) mxI ws' A'') (hg : ¬ (p.2.kind = 2 ∧ q.2.kind = 2 ∧ p.2.name = q.2.name ∧ p.1 = q.1)) : ws = ws' := by
  obtain ⟨ids, h1, h2⟩ := runE_closes h
  obtain ⟨ids', k1, k2⟩ := runE_closes h'
  have hc := acc_ok (l := a ++ p :: q :: b)
  have hs : SameTl ((a ++ p :: q :: b).filter accB) ((a ++ q :: p :: b).filter accB) := by
    rw [List.filter_append, List.filter_append, List.filter_cons, List.filter_cons, List.filter_cons, List.filter_cons] at *
    by_cases hp : accB p = true
    · by_cases hq : accB q = true
      · simp only [hp, hq, if_true] at hc ⊢
        exact swap_same _ _ p q hc hg
      · simp only [hp, hq, if_true, if_false, Bool.false_eq_true]
        exact fun _ _ => ⟨rfl, fun _ _ => rfl⟩
    · simp only [hp, if_false, Bool.false_eq_true]
      exact fun _ _ => ⟨rfl, fun _ _ => rfl⟩
  have hper : ((a ++ p :: q :: b).filter accB).Perm ((a ++ q :: p :: b).filter accB) := (List.Perm.append_left a (List.Perm.swap q p b)).filter _
  have hi : IdsTo ((a ++ q :: p :: b).filter accB) mxI ids := ⟨h1.rise, fun i => by
    rw [h1.mem i]
    constructor
    · rintro ⟨x, y, hy, e⟩; exact ⟨x, y, hper.mem_iff.1 hy, e⟩
    · rintro ⟨x, y, hy, e⟩; exact ⟨x, y, hper.mem_iff.2 hy, e⟩⟩
  obtain rfl := hi.unique k1
  exact ((hs.tells h2).unique k2).1
end Go.Proofs.YthbjpoiolmlpmaaGreatDoor
