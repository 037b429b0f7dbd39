/- Maps in memory: a map whose keys are told by a plain type: what each operation comes to. -/
import Derived.Test.YthbjpoiolmlpmaaGreatDoorKern
import Derived.Maps.OwnOps
import Derived.Maps.OwnSet
import Derived.Laws.StructEq
set_option linter.unusedVariables false
set_option linter.unusedSimpArgs false
namespace Go.Proofs.YthbjpoiolmlpmaaGreatDoor
open Go.RowKit

/-- How keys of type k compare: by the plain type κ. -/
structure KL (P : Program) (k : TypeId) {κ : Type} [DecidableEq κ] (kv : κ → Value) : Prop where
  check : ∀ (w : World) (em : Bool) (x : κ), (Instr.checkKey em 10000 k (kv x)).run P w = .ok () w
  under : ∃ d, P.underlying k = some d ∧ ((∀ x y, Instr.sameNow d (kv x) (kv y) = some (decide (x = y))) ∨ ((∀ x y, Instr.sameNow d (kv x) (kv y) = none) ∧ ∀ (w : World) (x y : κ), (Op.equal k (kv x) (kv y)).run P w = .ok (decide (x = y)) w))
  stays : ∀ (w : World) (x : κ), (Instr.keyThatStays (kv x) (kv x)).run P w = .ok (kv x) w

/-- The place of a key. -/
def place {κ : Type} [DecidableEq κ] (x : κ) : List (κ × Value) → Nat → Option (Nat × Value)
  | [], _ => none
  | p :: m, i => if x = p.1 then some (i, p.2) else place x m (i + 1)
def look {κ : Type} [DecidableEq κ] (x : κ) (m : List (κ × Value)) : Option Value := (place x m 0).map (·.2)

theorem findNow_none {κ : Type} {kv : κ → Value} (d : TypeDesc) (h : ∀ x y, Instr.sameNow d (kv x) (kv y) = none) (x : κ) (e : MapEntry) (es : List MapEntry) (p : κ × Value) (m : List (κ × Value)) (he : (e :: es).map (fun e => (e.key, e.val)) = (p :: m).map (fun p => (kv p.1, p.2))) : Instr.findNow d (kv x) (e :: es) 0 = none := by
  simp only [List.map_cons, List.cons.injEq, Prod.mk.injEq] at he
  unfold Instr.findNow
  rw [he.1.1, h]
theorem modify_map_fst {κ : Type} (f : Value → Value) : ∀ (m : List (κ × Value)) (i : Nat), (m.modify i (fun p => (p.1, f p.2))).map (·.1) = m.map (·.1)
  | [], i => by simp
  | p :: m, 0 => by simp
  | p :: m, i + 1 => by simp [modify_map_fst f m i]

section
variable {P : Program} {k : TypeId} {κ : Type} [DecidableEq κ] {kv : κ → Value}
theorem findNow_some (d : TypeDesc) (h : ∀ x y, Instr.sameNow d (kv x) (kv y) = some (decide (x = y))) (x : κ) : ∀ (es : List MapEntry) (m : List (κ × Value)) (i : Nat), es.map (fun e => (e.key, e.val)) = m.map (fun p => (kv p.1, p.2)) → Instr.findNow d (kv x) es i = some (place x m i)
  | [], [], _, _ => rfl
  | [], _ :: _, _, e => by simp at e
  | _ :: _, [], _, e => by simp at e
  | e :: es, p :: m, i, he => by
    simp only [List.map_cons, List.cons.injEq, Prod.mk.injEq] at he
    obtain ⟨⟨h1, h2⟩, h3⟩ := he
    unfold Instr.findNow place
    rw [h1, h]
    by_cases hx : x = p.1
    · simp [hx, h2]
    · simp [hx, findNow_some d h x es m (i + 1) h3]
theorem findAsking_run (heq : ∀ (w : World) (x y : κ), (Op.equal k (kv x) (kv y)).run P w = .ok (decide (x = y)) w) (w : World) (x : κ) : ∀ (es : List MapEntry) (m : List (κ × Value)) (i : Nat), es.map (fun e => (e.key, e.val)) = m.map (fun p => (kv p.1, p.2)) → (Instr.findAsking k (kv x) es i).run P w = .ok (place x m i) w
  | [], [], _, _ => by simp [Instr.findAsking, place]
  | [], _ :: _, _, e => by simp at e
  | _ :: _, [], _, e => by simp at e
  | e :: es, p :: m, i, he => by
    simp only [List.map_cons, List.cons.injEq, Prod.mk.injEq] at he
    obtain ⟨⟨h1, h2⟩, h3⟩ := he
    unfold Instr.findAsking place
    rw [h1]
    by_cases hx : x = p.1
    · simp [Sem.run_bind, heq, hx, h2, Result.andThen]
    · simp [Sem.run_bind, heq, hx, Result.andThen, findAsking_run heq w x es m (i + 1) h3]
theorem KL.find (K : KL P k kv) (w : World) (x : κ) (es : List MapEntry) (m : List (κ × Value)) (he : es.map (fun e => (e.key, e.val)) = m.map (fun p => (kv p.1, p.2))) : (Instr.findKey k (kv x) es).run P w = .ok (place x m 0) w := by
  obtain ⟨d, hd, h⟩ := K.under
  unfold Instr.findKey
  simp only [Sem.run_bind, run_underlying hd, Result.andThen]
  rcases h with h | ⟨h, heq⟩
  · rw [findNow_some d h x es m 0 he]
    simp
  · cases es with
    | nil =>
      cases m with
      | nil => simp [Instr.findNow, place]
      | cons p m => simp at he
    | cons e es =>
      cases m with
      | nil => simp at he
      | cons p m =>
        rw [findNow_none d h x e es p m he]
        exact findAsking_run heq w x _ _ 0 he
end

/-- Block b is a map that holds m: keys kv, each once; every entry was born at a time of its own. -/
def MapAt {κ : Type} (w : World) (kv : κ → Value) (b : Nat) (m : List (κ × Value)) : Prop :=
  ∃ es clock, w.heap[b]? = some (.map es clock) ∧ es.toList.map (fun e => (e.key, e.val)) = m.map (fun p => (kv p.1, p.2)) ∧ (m.map (·.1)).Nodup ∧ (es.toList.map (·.born)).Nodup ∧ ∀ e ∈ es.toList, e.born < clock
def put {κ : Type} [DecidableEq κ] (x : κ) (v : Value) (m : List (κ × Value)) : List (κ × Value) :=
  match place x m 0 with
  | some (i, _) => m.modify i (fun p => (p.1, v))
  | none => m ++ [(x, v)]

section
variable {P : Program} {k : TypeId} {κ : Type} {kv : κ → Value}
theorem MapAt.lt {w : World} {b : Nat} {m : List (κ × Value)} (h : MapAt w kv b m) : b < w.heap.size := by
  obtain ⟨es, clock, hb, _⟩ := h
  exact lt_of_block hb
theorem MapAt.upd {S : List Nat} {w w' : World} {b : Nat} {m : List (κ × Value)} (h : MapAt w kv b m) (hU : Upd S w w') (hn : b ∉ S) : MapAt w' kv b m := by
  have hl := h.lt
  obtain ⟨es, clock, hb, r⟩ := h
  exact ⟨es, clock, (hU.block b hl hn).trans hb, r⟩
theorem MapAt.new (w : World) (kv : κ → Value) : MapAt (w.alloc (.map #[] 0)) kv w.heap.size [] :=
  ⟨#[], 0, (MapKept.heap_alloc w _).1, rfl, .nil, .nil, fun e he => by simp at he⟩
theorem MapAt.nodup {w : World} {b : Nat} {m : List (κ × Value)} (h : MapAt w kv b m) : (m.map (·.1)).Nodup := by
  obtain ⟨_, _, _, _, h, _⟩ := h
  exact h
variable [DecidableEq κ]
theorem place_at (x : κ) : ∀ (m : List (κ × Value)) (i j : Nat) (v : Value), place x m i = some (j, v) → i ≤ j ∧ m[j - i]? = some (x, v)
  | [], _, _, _, h => by simp [place] at h
  | p :: m, i, j, v, h => by
    unfold place at h
    split at h
    · rename_i hx
      simp only [Option.some.injEq, Prod.mk.injEq] at h
      obtain ⟨rfl, rfl⟩ := h
      refine ⟨Nat.le_refl _, ?_⟩
      rw [Nat.sub_self, hx]
      rfl
    · obtain ⟨h1, h2⟩ := place_at x m (i + 1) j v h
      refine ⟨by omega, ?_⟩
      rw [show j - i = (j - (i + 1)) + 1 by omega]
      simpa using h2
theorem place_none (x : κ) : ∀ (m : List (κ × Value)) (i : Nat), place x m i = none ↔ x ∉ m.map (·.1)
  | [], _ => by simp [place]
  | p :: m, i => by
    unfold place
    split
    · rename_i hx; simp [hx]
    · rename_i hx; rw [place_none x m (i + 1)]; simp [hx]
/-- m[x]. -/
theorem run_lookup {w : World} {t e : TypeId} {b : Nat} {m : List (κ × Value)} (K : KL P k kv) (ht : P.underlying t = some (.map k e)) (h : MapAt w kv b m) (x : κ) (ok : Bool) {z : Value} (hz : (zeroValue e).run P w = .ok z w) :
    (Instr.lookup t (.map (some b)) (kv x) ok).run P w = .ok (if ok then .tuple #[(look x m).getD z, .bool (look x m).isSome] else (look x m).getD z) w := by
  obtain ⟨es, clock, hb, he, _⟩ := h
  unfold Instr.lookup
  have hg : (getObj b).run P w = .ok (.map es clock) w := by
    simp [getObj, Sem.run, hb]
  simp only [Sem.run_bind, run_underlying ht, Result.andThen, hg, Sem.run_pure, K.check, K.find w x es.toList m he]
  unfold look
  cases hp : place x m 0 with
  | some q => cases ok <;> simp [hp]
  | none => cases ok <;> simp [Sem.run_bind, hz, Result.andThen]

theorem setBlk_upd {w : World} {b : Nat} (o : Obj) : Upd [b] w (ChangeMaps.setBlock w b o) := by
  refine ⟨rfl, rfl, rfl, by simp [ChangeMaps.setBlock], fun i hi hn => ?_⟩
  have hne : ¬ b = i := fun e => hn (by simp [e])
  simp [ChangeMaps.setBlock, Array.getElem?_setIfInBounds, hne]
theorem setBlk_same {w : World} {b : Nat} (hb : b < w.heap.size) (o : Obj) : (ChangeMaps.setBlock w b o).heap[b]? = some o := by
  simp [ChangeMaps.setBlock, Array.getElem?_setIfInBounds, hb]
theorem look_put (x : κ) (v : Value) (m : List (κ × Value)) : look x (put x v m) = some v := by
  have key : ∀ (m : List (κ × Value)) (i j : Nat) (u : Value), place x m i = some (j, u) → place x (m.modify (j - i) (fun p => (p.1, v))) i = some (j, v) := by
    intro m
    induction m with
    | nil => intro i j u h; simp [place] at h
    | cons p m ih =>
      intro i j u h
      unfold place at h
      split at h
      · rename_i hx
        simp only [Option.some.injEq, Prod.mk.injEq] at h
        obtain ⟨rfl, _⟩ := h
        rw [Nat.sub_self, List.modify_zero_cons]
        unfold place
        simp [hx]
      · rename_i hx
        have h1 := (place_at x m (i + 1) j u h).1
        rw [show j - i = (j - (i + 1)) + 1 by omega, List.modify_succ_cons]
        unfold place
        rw [if_neg hx]
        exact ih (i + 1) j u h
  have key2 : ∀ (m : List (κ × Value)) (i : Nat), place x m i = none → place x (m ++ [(x, v)]) i = some (i + m.length, v) := by
    intro m
    induction m with
    | nil => intro i _; simp [place]
    | cons p m ih =>
      intro i h
      unfold place at h
      split at h
      · cases h
      · rename_i hx
        rw [List.cons_append]
        unfold place
        rw [if_neg hx, ih (i + 1) h, List.length_cons, show i + 1 + m.length = i + (m.length + 1) by omega]
  unfold look put
  cases h : place x m 0 with
  | none => simp [key2 m 0 h]
  | some q =>
    obtain ⟨j, u⟩ := q
    have := key m 0 j u h
    rw [Nat.sub_zero] at this
    simp [this]
theorem put_new (x : κ) (v : Value) (m : List (κ × Value)) (h : x ∉ m.map (·.1)) : put x v m = m ++ [(x, v)] := by
  unfold put
  rw [(place_none x m 0).2 h]
theorem look_none {x : κ} {m : List (κ × Value)} : look x m = none ↔ x ∉ m.map (·.1) := by
  unfold look
  rw [Option.map_eq_none_iff, place_none]

/-- m[x] = v. -/
theorem run_update {w : World} {t e : TypeId} {b : Nat} {m : List (κ × Value)} (K : KL P k kv) (ht : P.underlying t = some (.map k e)) (h : MapAt w kv b m) (x : κ) (v : Value) :
    ∃ w', (Instr.mapUpdate t (.map (some b)) (kv x) v).run P w = .ok () w' ∧ MapAt w' kv b (put x v m) ∧ Upd [b] w w' := by
  have hlt := h.lt
  obtain ⟨es, clock, hb, he, hnd, hbn, hcl⟩ := h
  have hf := K.find w x es.toList m he
  unfold put
  cases hp : place x m 0 with
  | none =>
    refine ⟨ChangeMaps.setBlock w b (.map (es.push ⟨kv x, v, clock⟩) (clock + 1)), ?_, ⟨_, _, setBlk_same hlt _, ?_, ?_, ?_, ?_⟩, setBlk_upd _⟩
    · rw [hp] at hf
      simp [Instr.mapUpdate, run_underlying ht, MapKept.run_getObj_map hb, K.check w false x, hf, MapKept.run_setObj_map _ hb, Result.andThen, ChangeMaps.setBlock]
    · simp [he]
    · rw [List.map_append, List.nodup_append]
      refine ⟨hnd, by simp, ?_⟩
      intro a ha c hc
      simp at hc
      subst hc
      intro e1
      subst e1
      exact (place_none a m 0).1 hp ha
    · rw [Array.toList_push, List.map_append, List.nodup_append]
      refine ⟨hbn, by simp, ?_⟩
      intro a ha c hc
      simp at hc
      subst hc
      obtain ⟨e1, he1, rfl⟩ := List.mem_map.1 ha
      exact Nat.ne_of_lt (hcl e1 he1)
    · intro e1 he1
      rw [Array.toList_push, List.mem_append] at he1
      rcases he1 with he1 | he1
      · have := hcl e1 he1; omega
      · simp at he1; subst he1; simp
  | some q =>
    obtain ⟨i, u⟩ := q
    obtain ⟨_, hi⟩ := place_at x m 0 i u hp
    rw [Nat.sub_zero] at hi
    have hie : ∃ e0, es[i]? = some e0 ∧ e0.key = kv x := by
      have h1 := congrArg (·[i]?) he
      simp only [List.getElem?_map, hi, Option.map_some] at h1
      obtain ⟨e0, h2, h3⟩ := Option.map_eq_some_iff.1 h1
      refine ⟨e0, by simpa using h2, ?_⟩
      simp only [Prod.mk.injEq] at h3
      exact h3.1
    obtain ⟨e0, h0, hk0⟩ := hie
    have hml : (es.modify i fun e => { e with key := kv x, val := v }).toList = es.toList.modify i fun e => { e with key := kv x, val := v } := by simp
    refine ⟨ChangeMaps.setBlock w b (.map (es.modify i fun e => { e with key := kv x, val := v }) clock), ?_, ⟨_, _, setBlk_same hlt _, ?_, ?_, ?_, ?_⟩, setBlk_upd _⟩
    · rw [hp] at hf
      simp [Instr.mapUpdate, run_underlying ht, MapKept.run_getObj_map hb, K.check w false x, hf, h0, hk0, K.stays, MapKept.run_setObj_map _ hb, Result.andThen, ChangeMaps.setBlock]
    · rw [hml]
      apply List.ext_getElem?
      intro j
      have h1 := congrArg (·[j]?) he
      simp only [List.getElem?_map] at h1
      simp only [List.getElem?_map, List.getElem?_modify]
      by_cases hij : i = j
      · subst hij
        rw [show es.toList[i]? = some e0 by simpa using h0, hi]
        simp
      · simp only [hij, if_false]
        simpa using h1
    · rw [show (fun p : κ × Value => (p.1, v)) = (fun p => (p.1, (fun _ => v) p.2)) from rfl, modify_map_fst (fun _ => v)]
      exact hnd
    · rw [hml]
      have : (es.toList.modify i fun e => { e with key := kv x, val := v }).map (·.born) = es.toList.map (·.born) := by
        apply List.ext_getElem?
        intro j
        simp only [List.getElem?_map, List.getElem?_modify]
        by_cases hij : i = j
        · subst hij; cases es.toList[i]? <;> simp
        · simp [hij]
      rw [this]
      exact hbn
    · rw [hml]
      intro e1 he1
      obtain ⟨j, hj⟩ := List.mem_iff_getElem?.1 he1
      rw [List.getElem?_modify] at hj
      obtain ⟨e2, h2, rfl⟩ := Option.map_eq_some_iff.1 hj
      have := hcl e2 (List.mem_of_getElem? h2)
      split <;> exact this

theorem put_put (x : κ) (u v : Value) (m : List (κ × Value)) (h : x ∉ m.map (·.1)) : put x v (m ++ [(x, u)]) = m ++ [(x, v)] := by
  have key2 : ∀ (m : List (κ × Value)) (i : Nat), x ∉ m.map (·.1) → place x (m ++ [(x, u)]) i = some (i + m.length, u) := by
    intro m
    induction m with
    | nil => intro i _; simp [place]
    | cons p m ih =>
      intro i h
      simp only [List.map_cons, List.mem_cons, not_or] at h
      rw [List.cons_append]
      unfold place
      rw [if_neg h.1, ih (i + 1) h.2, List.length_cons, show i + 1 + m.length = i + (m.length + 1) by omega]
  unfold put
  rw [key2 m 0 h]
  apply List.ext_getElem?
  intro j
  simp only [List.getElem?_modify, Nat.zero_add]
  by_cases hj : m.length = j
  · subst hj; simp
  · simp only [hj, if_false, id_map', List.getElem?_append]
    split
    · simp
    · obtain ⟨n, hn⟩ : ∃ n, j - m.length = n + 1 := ⟨j - m.length - 1, by omega⟩
      simp [hn]

/-- 'm[x] op= ..' of a key that is new: the entry is made, then filled. -/
theorem run_entry_new {w : World} {t e : TypeId} {b : Nat} {m : List (κ × Value)} (K : KL P k kv) (ht : P.underlying t = some (.map k e)) (h : MapAt w kv b m) (x : κ) (hx : x ∉ m.map (·.1)) {z : Value} (hz : ∀ w, (zeroValue e).run P w = .ok z w) :
    ∃ w1 st, (Instr.mapEntry t (.map (some b)) (kv x)).run P w = .ok (.tuple #[z, .int .i64 st]) w1 ∧ MapAt w1 kv b (m ++ [(x, z)]) ∧ Upd [b] w w1 ∧
      ∀ v, ∃ w2, (Instr.entryStore t (.map (some b)) (.int .i64 st) v).run P w1 = .ok () w2 ∧ MapAt w2 kv b (m ++ [(x, v)]) ∧ Upd [b] w w2 := by
  have hlt := h.lt
  have hp := (place_none x m 0).2 hx
  obtain ⟨es, clock, hb, he, hnd, hbn, hcl⟩ := h
  have hf := K.find w x es.toList m he
  rw [hp] at hf
  have hnd' : ((m ++ [(x, z)]).map (·.1)).Nodup := by
    rw [List.map_append, List.nodup_append]
    refine ⟨hnd, by simp, ?_⟩
    intro a ha c hc
    simp at hc
    subst hc
    intro e1
    subst e1
    exact hx ha
  have hbn' : ∀ v, ((es.push ⟨kv x, v, clock⟩).toList.map (·.born)).Nodup := by
    intro v
    rw [Array.toList_push, List.map_append, List.nodup_append]
    refine ⟨hbn, by simp, ?_⟩
    intro a ha c hc
    simp at hc
    subst hc
    obtain ⟨e1, he1, rfl⟩ := List.mem_map.1 ha
    exact Nat.ne_of_lt (hcl e1 he1)
  have hcl' : ∀ v, ∀ e ∈ (es.push ⟨kv x, v, clock⟩).toList, e.born < clock + 1 := by
    intro v e1 he1
    rw [Array.toList_push, List.mem_append] at he1
    rcases he1 with he1 | he1
    · have := hcl e1 he1; omega
    · simp at he1; subst he1; simp
  have hb1 := setBlk_same hlt (.map (es.push ⟨kv x, z, clock⟩) (clock + 1))
  have hlt1 : b < (ChangeMaps.setBlock w b (.map (es.push ⟨kv x, z, clock⟩) (clock + 1))).heap.size := by simp [ChangeMaps.setBlock]; exact hlt
  refine ⟨ChangeMaps.setBlock w b (.map (es.push ⟨kv x, z, clock⟩) (clock + 1)), clock, ?_, ⟨_, _, hb1, by simp [he], hnd', hbn' z, hcl' z⟩, setBlk_upd _, fun v => ?_⟩
  · simp [Instr.mapEntry, run_underlying ht, MapKept.run_getObj_map hb, K.check w false x, hf, hz, MapKept.run_setObj_map _ hb, Result.andThen, ChangeMaps.setBlock, goInt]
  · have hfi : (es.push ⟨kv x, z, clock⟩).findIdx? (fun e => (e.born : Int) == (clock : Int)) = some es.size := by
      rw [Array.findIdx?_push]
      have : es.findIdx? (fun e => (e.born : Int) == (clock : Int)) = none := by
        rw [Array.findIdx?_eq_none_iff]
        intro e1 he1
        have := hcl e1 (by simpa using he1)
        simp
        omega
      simp [this]
    have hmod : (es.push ⟨kv x, z, clock⟩).modify es.size (fun e => { e with val := v }) = es.push ⟨kv x, v, clock⟩ := by
      apply Array.ext
      · simp
      · intro i h1 h2
        rcases Nat.lt_or_ge i es.size with hi | hi
        · simp [Array.getElem_modify, Array.getElem_push, hi, Nat.ne_of_gt hi]
        · obtain rfl : i = es.size := by simp at h2; omega
          simp [Array.getElem_modify]
    refine ⟨ChangeMaps.setBlock (ChangeMaps.setBlock w b (.map (es.push ⟨kv x, z, clock⟩) (clock + 1))) b (.map (es.push ⟨kv x, v, clock⟩) (clock + 1)), ?_, ⟨_, _, setBlk_same hlt1 _, by simp [he], ?_, hbn' v, hcl' v⟩, (setBlk_upd _).then (setBlk_upd _)⟩
    · have hai : (asInt (.int .i64 (clock : Int))).run P (ChangeMaps.setBlock w b (.map (es.push ⟨kv x, z, clock⟩) (clock + 1))) = .ok (clock : Int) (ChangeMaps.setBlock w b (.map (es.push ⟨kv x, z, clock⟩) (clock + 1))) := by simp [asInt, asIntOf, Sem.run_bind, Result.andThen]
      simp only [Instr.entryStore, Sem.run_bind, MapKept.run_getObj_map hb1, Result.andThen, hai]
      rw [hfi]
      simp only [hmod]
      exact MapKept.run_setObj_map _ hb1
    · have e1 : (m ++ [(x, v)]).map (·.1) = (m ++ [(x, z)]).map (·.1) := by simp
      rw [e1]
      exact hnd'
end
end Go.Proofs.YthbjpoiolmlpmaaGreatDoor
