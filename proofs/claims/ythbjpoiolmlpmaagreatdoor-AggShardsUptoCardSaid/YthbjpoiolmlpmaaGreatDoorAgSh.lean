/- A shard by its events: New, Apply, Open, Gauge. -/
import Derived.Test.YthbjpoiolmlpmaaGreatDoorGau
import Derived.Test.YthbjpoiolmlpmaaGreatDoorAgPl
set_option linter.unusedVariables false
set_option linter.unusedSimpArgs false
namespace Go.Proofs.YthbjpoiolmlpmaaGreatDoor
open Go.RowKit
structure ShIn (w : World) (base a : Nat) (own : Nat → Tag) (L : AgL) (A : AgE) (M : Nat) : Prop where
  ag : AggAt w base a own L
  me : Means A.E L.pl.ws
  gs : ∀ x, gl x L.gs = A.g x
  bd : L.bound = A.bd
  ok : A.ok M
/-- At a lies a shard that took the events A; O are its blocks. -/
def ShAt (w : World) (base a : Nat) (O : Nat → Prop) (A : AgE) (M : Nat) : Prop := ∃ own L, (∀ b, O b ↔ own b ≠ .no) ∧ ShIn w base a own L A M
def UpdP (O : Nat → Prop) (w w' : World) : Prop := ∃ S, Upd S w w' ∧ ∀ b ∈ S, O b
theorem UpdP.of0 {O : Nat → Prop} {w w' : World} (h : Upd [] w w') : UpdP O w w' := ⟨[], h, fun b hb => by cases hb⟩
theorem UpdP.size {O : Nat → Prop} {w w' : World} (h : UpdP O w w') : w.heap.size ≤ w'.heap.size := by
  obtain ⟨S, h, _⟩ := h
  exact h.size
theorem UpdP.trans {O O' : Nat → Prop} {a b c : World} (h : UpdP O a b) (k : UpdP O' b c) (he : ∀ x, x < a.heap.size → O' x → O x) : UpdP O a c := by
  obtain ⟨S, h1, h2⟩ := h
  obtain ⟨T, k1, k2⟩ := k
  refine ⟨S ++ T.filter (fun i => decide (i < a.heap.size)), h1.trans k1 (fun i hi => List.mem_append_left _ hi) (fun i hi => ?_), fun i hi => ?_⟩
  · by_cases hl : i < a.heap.size
    · exact .inl (List.mem_append_right _ (List.mem_filter.2 ⟨hi, by simpa using hl⟩))
    · exact .inr (by omega)
  · rw [List.mem_append] at hi
    rcases hi with hi | hi
    · exact h2 i hi
    · obtain ⟨g1, g2⟩ := List.mem_filter.1 hi
      exact he i (by simpa using g2) (k2 i g1)
theorem UpdP.then0 {O : Nat → Prop} {a b c : World} (h : UpdP O a b) (k : Upd [] b c) : UpdP O a c := by
  obtain ⟨S, h1, h2⟩ := h
  exact ⟨S, h1.then0 k, h2⟩
/-- What lies apart from a shard stays. -/
theorem UpdP.upd {O : Nat → Prop} {w w' : World} (h : UpdP O w w') : ∃ S, Upd S w w' ∧ ∀ b ∈ S, O b := h
theorem UpdP.base {O : Nat → Prop} {w w' : World} {base : Nat} (h : UpdP O w w') (hb : ∀ b, O b → base ≤ b) : ∃ S, Upd S w w' ∧ ∀ b ∈ S, base ≤ b := by
  obtain ⟨S, h1, h2⟩ := h
  exact ⟨S, h1, fun b hm => hb b (h2 b hm)⟩
theorem ShAt.lo {w : World} {base a : Nat} {O : Nat → Prop} {A : AgE} {M : Nat} (h : ShAt w base a O A M) : ∀ b, O b → base ≤ b ∧ b < w.heap.size := by
  obtain ⟨own, L, h1, h2⟩ := h
  exact fun b hb => h2.ag.lo b ((h1 b).1 hb)
theorem ShAt.ok {w : World} {base a : Nat} {O : Nat → Prop} {A : AgE} {M : Nat} (h : ShAt w base a O A M) : A.ok M := by
  obtain ⟨own, L, h1, h2⟩ := h
  exact h2.ok
theorem ShAt.mono {w : World} {base a : Nat} {O : Nat → Prop} {A : AgE} {M N : Nat} (h : ShAt w base a O A M) (hm : M ≤ N) : ShAt w base a O A N := by
  obtain ⟨own, L, h1, h2⟩ := h
  exact ⟨own, L, h1, h2.ag, h2.me, h2.gs, h2.bd, h2.ok.mono hm⟩
theorem ShAt.upd {S : List Nat} {w w' : World} {base a : Nat} {O : Nat → Prop} {A : AgE} {M : Nat} (h : ShAt w base a O A M) (hU : Upd S w w') (hS : ∀ b ∈ S, ¬ O b) : ShAt w' base a O A M := by
  obtain ⟨own, L, h1, h2⟩ := h
  exact ⟨own, L, h1, h2.ag.upd hU (fun b hb => Classical.byContradiction fun hc => hS b hb ((h1 b).2 hc)), h2.me, h2.gs, h2.bd, h2.ok⟩
theorem ShAt.upd0 {w w' : World} {base a : Nat} {O : Nat → Prop} {A : AgE} {M : Nat} (h : ShAt w base a O A M) (hU : Upd [] w w') : ShAt w' base a O A M := h.upd hU (fun b hb => by cases hb)
theorem shNew_calls (w : World) : Calls Tryz.prog 15 #[] w fun e w' => ∃ a O, e = .returned (.pointer (some ⟨a, 0, none⟩)) ∧ ShAt w' w.heap.size a O AgE.new 0 ∧ Upd [] w w' := by
  refine (new_calls w).mono ?_
  rintro e w' ⟨rfl, h, hU⟩
  exact ⟨_, fun b => own0 w.heap.size b ≠ .no, rfl, ⟨_, _, fun b => Iff.rfl, h, Means.nil, fun x => rfl, rfl, AgE.new_ok⟩, hU⟩
theorem pl_ws {L : AgL} {q : Int × List (Met × TK)} (h : q ∈ L.pl.ws) : ∃ r ∈ L.ws, r.pl = q := List.mem_map.1 h
theorem ShIn.tks {w : World} {base a : Nat} {own : Nat → Tag} {L : AgL} {A : AgE} {M : Nat} (h : ShIn w base a own L A M) : ∀ r ∈ L.ws, ∀ t ∈ r.ts, t.tk.ok M := by
  intro r hr t ht
  have h1 := h.me.tk r.pl (List.mem_map_of_mem hr) (t.key, t.tk) (List.mem_map_of_mem (f := fun t : TR => (t.key, t.tk)) ht)
  simp only at h1
  rw [h1]
  obtain ⟨c, hc, _⟩ := h.ok.gs
  have := List.length_filter_le (inM r.pl.1 t.key) A.E
  exact ok_mono (tkOf_ok h.ok.ev _ _) (by omega)
theorem shApply_calls (base a M : Nat) (O : Nat → Prop) (A : AgE) (id : Int) (e : Ev) (w : World) (h : ShAt w base a O A M) (hM2 : M ≤ 4194303) (hM : MaxL w) (hn : e.name.size ≤ 1048576) (hm : e.member.size ≤ maxLen) (hbase : base ≤ w.heap.size) (hb0 : 0 < base) :
    Calls Tryz.prog 16 #[.pointer (some ⟨a, 0, none⟩), .int .i64 id, .agg (evC e).toArray] w fun x w' => x = .returned (.int .i64 (acode A.bd id e)) ∧ ∃ O', ShAt w' base a O' (A.apply id e) (M + 1) ∧ (∀ b, b < w.heap.size → O' b → O b) ∧ UpdP O w w' := by
  obtain ⟨own, L, h1, h2⟩ := h
  refine (apply_calls base a M own L id e w h2.ag h2.tks hM2 hM hn hm hbase hb0).mono ?_
  rintro x w' ⟨rfl, own', L', g1, g2, _, _, g5, S, g6, g7⟩
  have gws : L'.pl.ws = (L.pl.apply id e).ws := by rw [g2]
  have ggs : L'.pl.gs = (L.pl.apply id e).gs := by rw [g2]
  have gbd : L'.pl.bound = (L.pl.apply id e).bound := by rw [g2]
  have hbd : L.pl.bound = A.bd := h2.bd
  refine ⟨by rw [h2.bd], fun b => own' b ≠ .no, ⟨own', L', fun b => Iff.rfl, g1, ?_, ?_, ?_, AgE.ok_apply h2.ok id e⟩, fun b hb hO => (h1 b).2 (by rw [← g5 b hb]; exact hO), S, g6, fun b hb => (h1 b).2 (g7 b hb)⟩
  · rw [gws]
    unfold AgP.apply AgE.apply
    rw [hbd]
    split
    · exact h2.me.upd id e
    · exact h2.me
  · intro x
    have : L'.pl.gs x = (L.pl.apply id e).gs x := by rw [ggs]
    have k : (L.pl.apply id e).gs x = L.pl.gs x := by unfold AgP.apply; split <;> rfl
    have k2 : (A.apply id e).g x = A.g x := by unfold AgE.apply; split <;> rfl
    rw [k2, ← h2.gs x]
    exact this.trans k
  · have k : (L.pl.apply id e).bound = L.pl.bound := by unfold AgP.apply; split <;> rfl
    have k2 : (A.apply id e).bd = A.bd := by unfold AgE.apply; split <;> rfl
    rw [k2, ← hbd, ← k]
    exact gbd
theorem shGauge_calls (base a M : Nat) (O : Nat → Prop) (A : AgE) (nm : ByteArray) (w : World) (h : ShAt w base a O A M) :
    Calls Tryz.prog 28 #[.pointer (some ⟨a, 0, none⟩), .string nm] w fun e w' => e = .returned (.tuple #[wide ((A.g nm).getD 0), .bool (A.g nm).isSome]) ∧ Upd [] w w' := by
  obtain ⟨own, L, h1, h2⟩ := h
  rw [← h2.gs nm]
  exact gauge_calls base a own L nm w h2.ag
/-- The open windows, rising. -/
structure OpenIds (E : List KE) (ids : List Int) : Prop where
  rise : ids.Pairwise (· < ·)
  mem : ∀ i, i ∈ ids ↔ ∃ p ∈ E, p.1 = i
theorem OpenIds.unique {E : List KE} {l m : List Int} (h : OpenIds E l) (k : OpenIds E m) : l = m :=
  rising_ext (fun a => by omega) (fun a b h1 h2 => by omega) h.rise k.rise (fun i => (h.mem i).trans (k.mem i).symm)
theorem nodup_le {α : Type} {l : List α} : ∀ {m : List α}, l.Nodup → (∀ x ∈ l, x ∈ m) → l.length ≤ m.length := by
  induction l with
  | nil => intro m _ _; simp
  | cons a l ih =>
    intro m hn hs
    rw [List.nodup_cons] at hn
    obtain ⟨m1, m2, rfl⟩ := List.append_of_mem (hs a (by simp))
    have := ih (m := m1 ++ m2) hn.2 (fun x hx => by
      have := hs x (List.mem_cons_of_mem _ hx)
      simp at this ⊢
      rcases this with h | rfl | h
      · exact .inl h
      · exact absurd hx hn.1
      · exact .inr h)
    simp at this ⊢
    omega
theorem sortI_rise {l : List Int} (hn : l.Nodup) : (sortI l).Pairwise (· < ·) := by
  have h1 : (sortI l).Pairwise (· ≤ ·) := by
    have := List.pairwise_mergeSort (le := fun (x y : Int) => decide (x ≤ y)) (fun a b c h1 h2 => by simp at *; omega) (fun a b => by simp; omega) l
    exact this.imp (fun h => by simpa using h)
  have h2 : (sortI l).Nodup := (List.mergeSort_perm _ _).nodup_iff.2 hn
  exact (h1.and h2).imp (fun {a b} ⟨x, y⟩ => by omega)
theorem ShIn.ids {w : World} {base a : Nat} {own : Nat → Tag} {L : AgL} {A : AgE} {M : Nat} (h : ShIn w base a own L A M) : OpenIds A.E (sortI (L.ws.map WR.id)) ∧ L.ws.length ≤ M := by
  have e : L.pl.ws.map (·.1) = L.ws.map WR.id := by
    show (L.ws.map WR.pl).map _ = _
    rw [List.map_map]
    rfl
  have hn := h.me.nd
  rw [e] at hn
  have hm := h.me.ids
  rw [e] at hm
  refine ⟨⟨sortI_rise hn, fun i => ?_⟩, ?_⟩
  · rw [show i ∈ sortI (L.ws.map WR.id) ↔ i ∈ L.ws.map WR.id from (List.mergeSort_perm _ _).mem_iff]
    exact hm i
  · have := nodup_le (m := A.E.map (·.1)) hn (fun x hx => by
      obtain ⟨p, hp, e⟩ := (hm x).1 hx
      exact e ▸ List.mem_map_of_mem hp)
    simp at this
    obtain ⟨c, hc, _⟩ := h.ok.gs
    omega
theorem shOpen_calls (base a M : Nat) (O : Nat → Prop) (A : AgE) (w : World) (h : ShAt w base a O A M) (hM : M ≤ 4194304) :
    Calls Tryz.prog 22 #[.pointer (some ⟨a, 0, none⟩)] w fun e w' => ∃ v ids, e = .returned v ∧ OpenIds A.E ids ∧ w'.ownsRow w.heap.size 2 1 v ids.length (ids.map (Value.int .i64)) ∧ Upd [] w w' := by
  obtain ⟨own, L, h1, h2⟩ := h
  obtain ⟨g1, g2⟩ := h2.ids
  refine (open_calls base a own L w h2.ag (by omega)).mono ?_
  rintro e w' ⟨v, rfl, k1, k2⟩
  refine ⟨v, _, rfl, g1, ?_, k2⟩
  rw [sortI_len, List.length_map]
  exact k1
end Go.Proofs.YthbjpoiolmlpmaaGreatDoor
