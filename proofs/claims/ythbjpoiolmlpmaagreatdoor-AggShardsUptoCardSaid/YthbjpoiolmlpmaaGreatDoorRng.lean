/- range over a map, delete, len. -/
import Derived.Test.YthbjpoiolmlpmaaGreatDoorMap
import Derived.Maps.RangeRun
set_option linter.unusedVariables false
set_option linter.unusedSimpArgs false
namespace Go.Proofs.YthbjpoiolmlpmaaGreatDoor
open Go.RowKit
/-- r goes over the map b, which holds m; left is still to come. -/
def RngAt {κ : Type} (w : World) (kv : κ → Value) (b r : Nat) (m left : List (κ × Value)) : Prop :=
  ∃ es clock since seen c0, w.heap[b]? = some (.map es clock) ∧ es.toList.map (fun e => (e.key, e.val)) = m.map (fun p => (kv p.1, p.2)) ∧ (m.map (·.1)).Nodup ∧ (es.toList.map (·.born)).Nodup ∧ (∀ e ∈ es.toList, e.born < clock) ∧
    w.heap[r]? = some (.mapIter (some b) since seen c0) ∧ (∀ e ∈ es.toList, e.born < since) ∧ since ≤ c0 ∧ since ≤ clock ∧ (leftOf es seen).toList.map (fun e => (e.key, e.val)) = left.map (fun p => (kv p.1, p.2))
section
variable {P : Program} {κ : Type} {kv : κ → Value}
theorem RngAt.map {w : World} {b r : Nat} {m left : List (κ × Value)} (h : RngAt w kv b r m left) : MapAt w kv b m := by
  obtain ⟨es, clock, _, _, _, h1, h2, h3, h4, h5, _⟩ := h
  exact ⟨es, clock, h1, h2, h3, h4, h5⟩
theorem RngAt.lt {w : World} {b r : Nat} {m left : List (κ × Value)} (h : RngAt w kv b r m left) : r < w.heap.size := by
  obtain ⟨es, clock, _, _, _, _, _, _, _, _, h6, _⟩ := h
  exact lt_of_block h6
theorem RngAt.ne {w : World} {b r : Nat} {m left : List (κ × Value)} (h : RngAt w kv b r m left) : r ≠ b := by
  obtain ⟨es, clock, _, _, _, h1, _, _, _, _, h6, _⟩ := h
  intro e
  rw [e, h1] at h6
  cases h6
theorem RngAt.upd {S : List Nat} {w w' : World} {b r : Nat} {m left : List (κ × Value)} (h : RngAt w kv b r m left) (hU : Upd S w w') (hb : b ∉ S) (hr : r ∉ S) : RngAt w' kv b r m left := by
  have l1 := h.map.lt
  have l2 := h.lt
  obtain ⟨es, clock, since, seen, c0, h1, h2, h3, h4, h5, h6, rest⟩ := h
  exact ⟨es, clock, since, seen, c0, (hU.block b l1 hb).trans h1, h2, h3, h4, h5, (hU.block r l2 hr).trans h6, rest⟩
theorem run_range {w : World} {t k e : TypeId} {b : Nat} {m : List (κ × Value)} (ht : P.underlying t = some (.map k e)) (h : MapAt w kv b m) :
    ∃ w', (Instr.range t (.map (some b))).run P w = .ok (.pointer (some ⟨w.heap.size, 0, none⟩)) w' ∧ RngAt w' kv b w.heap.size m m ∧ Upd [] w w' ∧ w'.heap.size = w.heap.size + 1 := by
  have hlt := h.lt
  obtain ⟨es, clock, hb, h2, h3, h4, h5⟩ := h
  refine ⟨_, run_range_map w t k e b es clock ht hb, ⟨es, clock, clock, #[], clock, ((MapKept.heap_alloc w _).2 b hlt).trans hb, h2, h3, h4, h5, (MapKept.heap_alloc w _).1, h5, Nat.le_refl _, Nat.le_refl _, ?_⟩, (Upd.refl _ _).alloc _, by simp⟩
  have : leftOf es #[] = es := by simp [leftOf]
  rw [this]
  exact h2
theorem filter_born {es : List MapEntry} (hn : (es.map (·.born)).Nodup) : ∀ {a c : List MapEntry} {e : MapEntry}, es = a ++ e :: c → es.filter (fun x => !(x.born == e.born)) = a ++ c := by
  rintro a c e rfl
  rw [List.map_append, List.map_cons, List.nodup_append] at hn
  obtain ⟨_, h2, h3⟩ := hn
  rw [List.nodup_cons] at h2
  rw [List.filter_append, List.filter_cons]
  simp only [BEq.rfl, Bool.not_true, Bool.false_eq_true, if_false]
  congr 1
  · refine List.filter_eq_self.2 (fun x hx => ?_)
    have := h3 x.born (List.mem_map.2 ⟨x, hx, rfl⟩) e.born (by simp)
    simpa using this
  · refine List.filter_eq_self.2 (fun x hx => ?_)
    have : x.born ≠ e.born := fun he => h2.1 (List.mem_map.2 ⟨x, hx, he⟩)
    simpa using this
theorem RngAt.next {w : World} {b r : Nat} {m left : List (κ × Value)} (h : RngAt w kv b r m left) (ty : TypeId) :
    (left = [] ∧ (Instr.next (.pointer (some ⟨r, 0, none⟩)) false ty).run P w = .ok (.tuple #[.bool false]) w) ∨
    ∃ m1 k v m2 w', left = m1 ++ (k, v) :: m2 ∧ (Instr.next (.pointer (some ⟨r, 0, none⟩)) false ty).run P w = .ok (.tuple #[.bool true, kv k, v]) w' ∧ RngAt w' kv b r m (m1 ++ m2) ∧ Upd [r] w w' ∧
      (Instr.entry (.pointer (some ⟨r, 0, none⟩))).run P w' = .ok (.tuple #[kv k, v]) w' := by
  have hne := h.ne
  have hrl := h.lt
  obtain ⟨es, clock, since, seen, c0, h1, h2, h3, h4, h5, h6, h7, h8, h9, h10⟩ := h
  rcases run_next_at (P := P) w ty r b since c0 seen es clock h6 h1 h7 h8 with ⟨h0, hrun⟩ | ⟨e, he, w1, hal, hrun⟩
  · left
    have : leftOf es seen = #[] := Array.eq_empty_of_size_eq_zero h0
    rw [this] at h10
    exact ⟨by simpa using h10.symm, hrun⟩
  · right
    obtain ⟨a, c, hac⟩ := List.append_of_mem he
    rw [hac, List.map_append, List.map_cons] at h10
    obtain ⟨m1, ma, rfl, hm1, hma⟩ := List.map_eq_append_iff.1 h10.symm
    obtain ⟨p, m2, rfl, hp, hm2⟩ := List.map_eq_cons_iff.1 hma
    obtain ⟨k, v⟩ := p
    simp only [Prod.mk.injEq] at hp
    obtain ⟨hk, hv⟩ := hp
    have hem : e ∈ es.toList := by
      have := he
      simp [leftOf] at this
      simpa using this.1
    have hU : Upd [r] w (ChangeMaps.setBlock w1 r (.mapIter (some b) since (seen.push e.born) clock)) := by
      rcases hal with rfl | rfl
      · exact setBlk_upd _
      · exact (Upd.refl [r] w).drew.then (setBlk_upd _)
    have hr1 : (ChangeMaps.setBlock w1 r (.mapIter (some b) since (seen.push e.born) clock)).heap[r]? = some (.mapIter (some b) since (seen.push e.born) clock) := by
      refine setBlk_same ?_ _
      rcases hal with rfl | rfl <;> exact hrl
    have hb1 := (hU.block b (lt_of_block h1) (by simpa using fun e => hne e.symm)).trans h1
    refine ⟨m1, k, v, m2, _, rfl, by rw [hk, hv]; exact hrun, ⟨es, clock, since, seen.push e.born, clock, hb1, h2, h3, h4, h5, hr1, h7, h9, h9, ?_⟩, hU, by rw [hk, hv]; exact run_entry_at _ r b since seen es clock e hr1 hb1 hem h4⟩
    have hl : (leftOf es (seen.push e.born)).toList = (leftOf es seen).toList.filter (fun x => !(x.born == e.born)) := by
      simp only [leftOf, Array.toList_filter, List.filter_filter]
      refine List.filter_congr (fun x _ => ?_)
      rw [contains_push]
      cases seen.contains x.born <;> cases (x.born == e.born) <;> rfl
    have hnl : ((leftOf es seen).toList.map (·.born)).Nodup := by
      refine List.Sublist.nodup (List.Sublist.map _ ?_) h4
      simp only [leftOf, Array.toList_filter]
      exact List.filter_sublist
    rw [hl, filter_born hnl hac, List.map_append, List.map_append, hm1, hm2]
theorem run_len {w : World} {t k e : TypeId} {b : Nat} {m : List (κ × Value)} (ht : P.underlying t = some (.map k e)) (h : MapAt w kv b m) (ty : TypeId) : (Builtin.len_ #[t] ty #[.map (some b)]).run P w = .ok (.int .i64 (m.length : Int)) w := by
  obtain ⟨es, clock, hb, he, _⟩ := h
  have hl : es.size = m.length := by simpa using congrArg List.length he
  simp [Builtin.len_, run_underlying ht, MapKept.run_getObj_map hb, goInt, Result.andThen, hl]
variable [DecidableEq κ] {k : TypeId}
theorem place_split (x : κ) (u : Value) (m2 : List (κ × Value)) : ∀ (m1 : List (κ × Value)) (i : Nat), x ∉ m1.map (·.1) → place x (m1 ++ (x, u) :: m2) i = some (i + m1.length, u)
  | [], i, _ => by simp [place]
  | p :: m1, i, h => by
    simp only [List.map_cons, List.mem_cons, not_or] at h
    simp only [List.cons_append, place]
    rw [if_neg h.1, place_split x u m2 m1 (i + 1) h.2]
    simp
    omega
theorem run_delete {w : World} {t e ty : TypeId} {b : Nat} {m1 m2 : List (κ × Value)} {x : κ} {u : Value} (K : KL P k kv) (ht : P.underlying t = some (.map k e)) (h : MapAt w kv b (m1 ++ (x, u) :: m2)) :
    ∃ w', (Builtin.delete_ #[t, k] ty #[.map (some b), kv x]).run P w = .ok (.tuple #[]) w' ∧ MapAt w' kv b (m1 ++ m2) ∧ Upd [b] w w' := by
  have hlt := h.lt
  obtain ⟨es, clock, hb, he, hnd, hbn, hcl⟩ := h
  have hx : x ∉ m1.map (·.1) := by
    rw [List.map_append, List.map_cons, List.nodup_append] at hnd
    exact fun hm => hnd.2.2 x hm x (by simp) rfl
  have hf := K.find w x es.toList _ he
  rw [place_split x u m2 m1 0 hx, Nat.zero_add] at hf
  have hlen : es.toList.length = (m1 ++ (x, u) :: m2).length := by
    have := congrArg List.length he
    simpa using this
  have hj : m1.length < es.size := by simp at hlen; omega
  have hsub : (es.eraseIdxIfInBounds m1.length).toList = es.toList.eraseIdx m1.length := by
    unfold Array.eraseIdxIfInBounds
    rw [dif_pos hj]
    simp
  have hsl : (es.toList.eraseIdx m1.length).Sublist es.toList := List.eraseIdx_sublist _ _
  refine ⟨ChangeMaps.setBlock w b (.map (es.eraseIdxIfInBounds m1.length) clock), ?_, ⟨_, _, setBlk_same hlt _, ?_, ?_, ?_, ?_⟩, setBlk_upd _⟩
  · simp [Builtin.delete_, run_underlying ht, MapKept.run_getObj_map hb, K.check w _ x, hf, MapKept.run_setObj_map _ hb, Result.andThen, ChangeMaps.setBlock]
  · rw [hsub, List.eraseIdx_eq_take_drop_succ, List.map_append, List.map_take, List.map_drop, he, ← List.map_take, ← List.map_drop, ← List.map_append]
    congr 1
    simp [List.take_append, List.drop_append]
  · refine List.Sublist.nodup (List.Sublist.map _ ?_) hnd
    exact List.Sublist.append (List.Sublist.refl _) (List.sublist_cons_self _ _)
  · rw [hsub]
    exact List.Sublist.nodup (List.Sublist.map _ hsl) hbn
  · rw [hsub]
    exact fun e1 he1 => hcl e1 (hsl.subset he1)
end
end Go.Proofs.YthbjpoiolmlpmaaGreatDoor
