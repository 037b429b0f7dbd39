/- What a shard has, by the events that it took. -/
import Derived.Test.YthbjpoiolmlpmaaGreatDoorApl
set_option linter.unusedVariables false
set_option linter.unusedSimpArgs false
namespace Go.Proofs.YthbjpoiolmlpmaaGreatDoor
abbrev KE : Type := Int × Ev
def met (e : Ev) : Met := (e.kind, e.name)
def inM (id : Int) (m : Met) (p : KE) : Bool := decide (p.1 = id) && decide (met p.2 = m)
def tkOf (E : List KE) (id : Int) (m : Met) : TK := (E.filter (inM id m)).foldl (fun k p => k.take p.2) (freshK m.1)
/-- ws is what the events E make. -/
structure Means (E : List KE) (ws : List (Int × List (Met × TK))) : Prop where
  nd : (ws.map (·.1)).Nodup
  ids : ∀ id, id ∈ ws.map (·.1) ↔ ∃ p ∈ E, p.1 = id
  tnd : ∀ r ∈ ws, (r.2.map (·.1)).Nodup
  mets : ∀ r ∈ ws, ∀ m, m ∈ r.2.map (·.1) ↔ ∃ p ∈ E, inM r.1 m p = true
  tk : ∀ r ∈ ws, ∀ q ∈ r.2, q.2 = tkOf E r.1 q.1
theorem inM_iff {id : Int} {m : Met} {p : KE} : inM id m p = true ↔ p.1 = id ∧ met p.2 = m := by simp [inM]
theorem Means.nil : Means [] [] := ⟨.nil, by simp, by simp, by simp, by simp⟩
theorem tkOf_snoc (E : List KE) (p : KE) (id : Int) (m : Met) : tkOf (E ++ [p]) id m = if inM id m p = true then (tkOf E id m).take p.2 else tkOf E id m := by
  unfold tkOf
  rw [List.filter_append, List.foldl_append]
  by_cases h : inM id m p = true
  · simp [h]
  · simp [h]
theorem tkOf_none {E : List KE} {id : Int} {m : Met} (h : ∀ p ∈ E, inM id m p ≠ true) : tkOf E id m = freshK m.1 := by
  unfold tkOf
  rw [List.filter_eq_nil_iff.2 h]
  rfl
/-- The window's part. -/
structure MeansT (E : List KE) (id : Int) (ts : List (Met × TK)) : Prop where
  tnd : (ts.map (·.1)).Nodup
  mets : ∀ m, m ∈ ts.map (·.1) ↔ ∃ p ∈ E, inM id m p = true
  tk : ∀ q ∈ ts, q.2 = tkOf E id q.1
theorem Means.t {E : List KE} {ws : List (Int × List (Met × TK))} (h : Means E ws) {r : Int × List (Met × TK)} (hr : r ∈ ws) : MeansT E r.1 r.2 := ⟨h.tnd r hr, h.mets r hr, h.tk r hr⟩
theorem split_key {κ α : Type} [DecidableEq κ] (x : κ) : ∀ l : List (κ × α), x ∉ l.map (·.1) ∨ ∃ l1 a l2, l = l1 ++ (x, a) :: l2 ∧ x ∉ l1.map (·.1)
  | [] => .inl (by simp)
  | q :: l => by
    by_cases h : q.1 = x
    · obtain ⟨k, a⟩ := q
      dsimp only at h
      subst h
      exact .inr ⟨[], a, l, rfl, by simp⟩
    · rcases split_key x l with g | ⟨l1, a, l2, rfl, g⟩
      · exact .inl (by simp; exact ⟨fun e => h e.symm, by simpa using g⟩)
      · exact .inr ⟨q :: l1, a, l2, rfl, by simp; exact ⟨fun e => h e.symm, by simpa using g⟩⟩
theorem MeansT.other {E : List KE} {id : Int} {ts : List (Met × TK)} (h : MeansT E id ts) {p : KE} (hp : p.1 ≠ id) : MeansT (E ++ [p]) id ts := by
  have hn : ∀ m, inM id m p ≠ true := fun m e => hp (inM_iff.1 e).1
  refine ⟨h.tnd, fun m => ?_, fun q hq => ?_⟩
  · rw [h.mets m]
    constructor
    · rintro ⟨x, hx, g⟩
      exact ⟨x, List.mem_append_left _ hx, g⟩
    · rintro ⟨x, hx, g⟩
      rcases List.mem_append.1 hx with hx | hx
      · exact ⟨x, hx, g⟩
      · simp at hx; subst hx; exact absurd g (hn m)
  · rw [tkOf_snoc, if_neg (hn _)]
    exact h.tk q hq
theorem MeansT.upd {E : List KE} {id : Int} {ts : List (Met × TK)} (h : MeansT E id ts) (e : Ev) : MeansT (E ++ [(id, e)]) id (updT e ts) := by
  have hi : ∀ m, inM id m (id, e) = true ↔ met e = m := fun m => by simp [inM]
  have key : ∀ m, (∃ p ∈ E ++ [(id, e)], inM id m p = true) ↔ (∃ p ∈ E, inM id m p = true) ∨ met e = m := fun m => by
    constructor
    · rintro ⟨p, hp, g⟩
      rcases List.mem_append.1 hp with hp | hp
      · exact .inl ⟨p, hp, g⟩
      · simp at hp; subst hp; exact .inr ((hi m).1 g)
    · rintro (⟨p, hp, g⟩ | g)
      · exact ⟨p, List.mem_append_left _ hp, g⟩
      · exact ⟨(id, e), by simp, (hi m).2 g⟩
  rcases split_key (met e) ts with g | ⟨l1, k, l2, rfl, g⟩
  · rw [updT_new e ts g]
    have hno : ∀ p ∈ E, inM id (met e) p ≠ true := fun p hp hc => g ((h.mets _).2 ⟨p, hp, hc⟩)
    refine ⟨?_, fun m => ?_, fun q hq => ?_⟩
    · rw [List.map_append, List.nodup_append]
      refine ⟨h.tnd, by simp, fun a ha b hb => ?_⟩
      simp at hb
      subst hb
      exact fun e1 => g (by rw [show met e = a from e1.symm]; exact ha)
    · rw [key, ← h.mets m]
      simp [met, eq_comm]
    · rcases List.mem_append.1 hq with hq | hq
      · rw [tkOf_snoc, if_neg, h.tk q hq]
        rw [hi]
        intro e1
        rw [e1] at g
        exact g (List.mem_map_of_mem hq)
      · simp at hq
        subst hq
        show _ = tkOf _ id (met e)
        rw [tkOf_snoc, if_pos ((hi _).2 rfl), tkOf_none hno]
        rfl
  · rw [show updT e (l1 ++ (met e, k) :: l2) = l1 ++ (met e, k.take e) :: l2 from updT_at e l1 l2 k g]
    have hn := h.tnd
    rw [List.map_append, List.map_cons, List.nodup_append, List.nodup_cons] at hn
    refine ⟨by simpa [List.map_append] using h.tnd, fun m => ?_, fun q hq => ?_⟩
    · rw [key, ← h.mets m]
      simp only [List.map_append, List.map_cons, List.mem_append, List.mem_cons]
      constructor
      · rintro (a | a | a)
        · exact .inl (.inl a)
        · exact .inr a.symm
        · exact .inl (.inr (.inr a))
      · rintro ((a | a | a) | a)
        · exact .inl a
        · exact .inr (.inl a)
        · exact .inr (.inr a)
        · exact .inr (.inl a.symm)
    · have hne : ∀ q ∈ l1 ++ l2, q.1 ≠ met e := fun q hq e1 => by
        rcases List.mem_append.1 hq with hq | hq
        · exact g (by rw [← e1]; exact List.mem_map_of_mem hq)
        · exact hn.2.1.1 (by show met e ∈ l2.map (·.1); rw [← e1]; exact List.mem_map_of_mem hq)
      have old : ∀ q ∈ l1 ++ l2, q.2 = tkOf (E ++ [(id, e)]) id q.1 := fun q hq => by
        rw [tkOf_snoc, if_neg (by rw [hi]; exact fun e1 => hne q hq e1.symm)]
        exact h.tk q (by rcases List.mem_append.1 hq with a | a <;> simp [a])
      rcases List.mem_append.1 hq with hq | hq
      · exact old q (List.mem_append_left _ hq)
      · rcases List.mem_cons.1 hq with rfl | hq
        · show k.take e = tkOf _ id (met e)
          rw [tkOf_snoc, if_pos ((hi _).2 rfl), ← h.tk (met e, k) (by simp)]
        · exact old q (List.mem_append_right _ hq)
theorem MeansT.nil_of {E : List KE} {id : Int} (h : ∀ p ∈ E, p.1 ≠ id) : MeansT E id [] := by
  refine ⟨.nil, fun m => ⟨fun g => by simp at g, ?_⟩, by simp⟩
  rintro ⟨p, hp, g⟩
  exact absurd (inM_iff.1 g).1 (h p hp)
theorem Means.of {E : List KE} {ws : List (Int × List (Met × TK))} (nd : (ws.map (·.1)).Nodup) (ids : ∀ id, id ∈ ws.map (·.1) ↔ ∃ p ∈ E, p.1 = id) (t : ∀ r ∈ ws, MeansT E r.1 r.2) : Means E ws :=
  ⟨nd, ids, fun r hr => (t r hr).tnd, fun r hr => (t r hr).mets, fun r hr => (t r hr).tk⟩
theorem Means.upd {E : List KE} {ws : List (Int × List (Met × TK))} (h : Means E ws) (id : Int) (e : Ev) : Means (E ++ [(id, e)]) (updW id e ws) := by
  have key : ∀ i, (∃ p ∈ E ++ [(id, e)], p.1 = i) ↔ (∃ p ∈ E, p.1 = i) ∨ id = i := fun i => by
    constructor
    · rintro ⟨p, hp, g⟩
      rcases List.mem_append.1 hp with hp | hp
      · exact .inl ⟨p, hp, g⟩
      · simp at hp; subst hp; exact .inr g
    · rintro (⟨p, hp, g⟩ | g)
      · exact ⟨p, List.mem_append_left _ hp, g⟩
      · exact ⟨(id, e), by simp, g⟩
  rcases split_key id ws with g | ⟨l1, ts, l2, rfl, g⟩
  · rw [updW_new id e ws g]
    have hno : ∀ p ∈ E, p.1 ≠ id := fun p hp hc => g ((h.ids _).2 ⟨p, hp, hc⟩)
    refine .of ?_ (fun i => ?_) (fun r hr => ?_)
    · rw [List.map_append, List.nodup_append]
      refine ⟨h.nd, by simp, fun a ha b hb => ?_⟩
      simp at hb
      subst hb
      exact fun e1 => g (e1 ▸ ha)
    · rw [key, ← h.ids i]
      simp [eq_comm]
    · rcases List.mem_append.1 hr with hr | hr
      · exact (h.t hr).other (fun e1 => g (by rw [show id = r.1 from e1]; exact List.mem_map_of_mem hr))
      · simp at hr
        subst hr
        exact (MeansT.nil_of hno).upd e
  · rw [updW_at id e l1 l2 ts g]
    have hn := h.nd
    rw [List.map_append, List.map_cons, List.nodup_append, List.nodup_cons] at hn
    have hne : ∀ q ∈ l1 ++ l2, q.1 ≠ id := fun q hq e1 => by
      rcases List.mem_append.1 hq with hq | hq
      · exact g (by rw [← e1]; exact List.mem_map_of_mem hq)
      · exact hn.2.1.1 (by show id ∈ l2.map (·.1); rw [← e1]; exact List.mem_map_of_mem hq)
    refine .of (by simpa [List.map_append] using h.nd) (fun i => ?_) (fun r hr => ?_)
    · rw [key, ← h.ids i]
      simp only [List.map_append, List.map_cons, List.mem_append, List.mem_cons]
      constructor
      · rintro (a | a | a)
        · exact .inl (.inl a)
        · exact .inr a.symm
        · exact .inl (.inr (.inr a))
      · rintro ((a | a | a) | a)
        · exact .inl a
        · exact .inr (.inl a)
        · exact .inr (.inr a)
        · exact .inr (.inl a.symm)
    · have old : ∀ q ∈ l1 ++ l2, MeansT (E ++ [(id, e)]) q.1 q.2 := fun q hq => (h.t (by rcases List.mem_append.1 hq with a | a <;> simp [a])).other (fun e1 => hne q hq e1.symm)
      rcases List.mem_append.1 hr with hr | hr
      · exact old r (List.mem_append_left _ hr)
      · rcases List.mem_cons.1 hr with rfl | hr
        · exact (h.t (r := (id, ts)) (by simp)).upd e
        · exact old r (List.mem_append_right _ hr)
/-- Without the windows up to one. -/
theorem Means.above {E : List KE} {ws : List (Int × List (Met × TK))} (h : Means E ws) (id : Int) : Means (E.filter fun p => decide (id < p.1)) (ws.filter fun r => decide (id < r.1)) := by
  refine .of (List.Sublist.nodup (List.Sublist.map _ List.filter_sublist) h.nd) (fun i => ?_) (fun r hr => ?_)
  · constructor
    · intro hi
      obtain ⟨r, hr, rfl⟩ := List.mem_map.1 hi
      obtain ⟨hr1, hr2⟩ := List.mem_filter.1 hr
      obtain ⟨p, hp, g⟩ := (h.ids r.1).1 (List.mem_map_of_mem hr1)
      exact ⟨p, List.mem_filter.2 ⟨hp, by rw [g]; exact hr2⟩, g⟩
    · rintro ⟨p, hp, rfl⟩
      obtain ⟨hp1, hp2⟩ := List.mem_filter.1 hp
      obtain ⟨r, hr, g⟩ := List.mem_map.1 ((h.ids p.1).2 ⟨p, hp1, rfl⟩)
      rw [← g]
      exact List.mem_map_of_mem (List.mem_filter.2 ⟨hr, by rw [g]; exact hp2⟩)
  · obtain ⟨hr1, hr2⟩ := List.mem_filter.1 hr
    have hf : ∀ m, (E.filter fun p => decide (id < p.1)).filter (inM r.1 m) = E.filter (inM r.1 m) := fun m => by
      rw [List.filter_filter]
      refine List.filter_congr fun p _ => ?_
      by_cases hc : p.1 = r.1
      · have : decide (id < p.1) = true := by rw [hc]; exact hr2
        simp [this]
      · simp [inM, hc]
    have ht := h.t hr1
    refine ⟨ht.tnd, fun m => ?_, fun q hq => ?_⟩
    · rw [ht.mets m]
      constructor
      · rintro ⟨p, hp, g⟩
        exact ⟨p, List.mem_filter.2 ⟨hp, by rw [(inM_iff.1 g).1]; exact hr2⟩, g⟩
      · rintro ⟨p, hp, g⟩
        exact ⟨p, (List.mem_filter.1 hp).1, g⟩
    · rw [ht.tk q hq]
      unfold tkOf
      rw [hf]
end Go.Proofs.YthbjpoiolmlpmaaGreatDoor
