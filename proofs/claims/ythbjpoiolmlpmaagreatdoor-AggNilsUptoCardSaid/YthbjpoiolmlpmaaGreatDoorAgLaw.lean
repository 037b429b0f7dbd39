/- Laws of what is told. -/
import Derived.Test.YthbjpoiolmlpmaaGreatDoorAgOk
set_option linter.unusedVariables false
set_option linter.unusedSimpArgs false
namespace Go.Proofs.YthbjpoiolmlpmaaGreatDoor
/-- Over windows that cover all: the parts together. -/
theorem sum_ids {α : Type} (w : α → Int) (f : α → Int) : ∀ (E : List α) (ids : List Int), ids.Nodup → (∀ p ∈ E, w p ∈ ids) → (ids.map fun i => ((E.filter fun p => decide (w p = i)).map f).sum).sum = (E.map f).sum
  | [], ids, _, _ => by
    simp only [List.filter_nil, List.map_nil, List.sum_nil]
    induction ids with
    | nil => rfl
    | cons i ids ih => simp_all
  | p :: E, ids, hn, hc => by
    have ih := sum_ids w f E ids hn (fun q hq => hc q (List.mem_cons_of_mem _ hq))
    have key : ∀ ids : List Int, ids.Nodup → (ids.map fun i => (((p :: E).filter fun p => decide (w p = i)).map f).sum).sum = (if w p ∈ ids then f p else 0) + (ids.map fun i => ((E.filter fun p => decide (w p = i)).map f).sum).sum := by
      intro ids hn
      clear hc ih
      induction ids with
      | nil => simp
      | cons i ids ih2 =>
        rw [List.nodup_cons] at hn
        rw [List.map_cons, List.sum_cons, List.map_cons, List.sum_cons, ih2 hn.2]
        simp only [List.filter_cons]
        by_cases h1 : w p = i
        · subst h1
          simp [hn.1]
          omega
        · simp [h1]
          omega
    rw [key ids hn, if_pos (hc p (by simp)), ih]
    simp
theorem sum_filter_eq {α : Type} (p : α → Bool) (f : α → Int) (l : List α) : ((l.filter p).map f).sum = (l.map fun x => if p x = true then f x else 0).sum := by
  induction l with
  | nil => rfl
  | cons a l ih =>
    simp only [List.filter_cons, List.map_cons, List.sum_cons]
    by_cases h : p a = true
    · simp [h, ih]
    · simp [h, ih]
theorem inM_filter (E : List KE) (id : Int) (m : Met) : E.filter (inM id m) = (E.filter fun p => decide (met p.2 = m)).filter fun p => decide (p.1 = id) := by
  rw [List.filter_filter]
  rfl
theorem sum_ids_met (f : KE → Int) (m : Met) (E : List KE) (ids : List Int) (hn : ids.Nodup) (hc : ∀ p ∈ E, p.1 ∈ ids) : (ids.map fun i => ((E.filter (inM i m)).map f).sum).sum = ((E.filter fun p => decide (met p.2 = m)).map f).sum := by
  rw [← sum_ids (fun p : KE => p.1) f _ ids hn (fun p hp => hc p (List.mem_filter.1 hp).1)]
  congr 1
  exact List.map_congr_left (fun i _ => by rw [inM_filter])
theorem filter_key {α κ : Type} [DecidableEq κ] (f : α → κ) : ∀ (l : List α), (l.map f).Nodup → ∀ t ∈ l, l.filter (fun x => decide (f x = f t)) = [t]
  | [], _, t, ht => by cases ht
  | a :: l, hn, t, ht => by
    rw [List.map_cons, List.nodup_cons] at hn
    rw [List.filter_cons]
    rcases List.mem_cons.1 ht with rfl | ht
    · rw [if_pos (by simp), List.filter_eq_nil_iff.2 (fun x hx e => hn.1 (by rw [← show f x = f t by simpa using e]; exact List.mem_map_of_mem hx))]
    · rw [if_neg (by simpa using fun e : f a = f t => hn.1 (by rw [e]; exact List.mem_map_of_mem ht)), filter_key f l hn.2 t ht]
/-- A told window's tally of a metric. -/
theorem Told.at_ {E : List KE} {g : GV} {id : Int} {T : List TL} (h : Told E g id T) (m : Met) : T.filter (fun t => decide (t.met = m)) = if E.any (inM id m) = true then [tlOf E g id m] else [] := by
  have hn : (T.map TL.met).Nodup := h.rise.imp (fun {a b} hab e => by subst e; rw [ltM_irrefl] at hab; cases hab)
  by_cases hm : ∃ p ∈ E, inM id m p = true
  · rw [if_pos (List.any_eq_true.2 hm)]
    obtain ⟨t, ht, rfl⟩ := List.mem_map.1 ((h.mem m).2 hm)
    rw [filter_key TL.met T hn t ht]
    conv => lhs; rw [h.eq t ht]
  · rw [if_neg (fun e => hm (List.any_eq_true.1 e))]
    refine List.filter_eq_nil_iff.2 fun t ht e => hm ((h.mem m).1 ?_)
    rw [← show t.met = m by simpa using e]
    exact List.mem_map_of_mem ht
theorem fold_cnt (l : List KE) : ∀ n s, l.foldl (fun k p => TK.take p.2 k) (TK.cnt n s) = .cnt (n + l.length) (s + (l.map fun p => scl p.2.value p.2.rate).sum) := by
  induction l with
  | nil => intro n s; simp
  | cons p l ih =>
    intro n s
    rw [List.foldl_cons]
    show l.foldl _ (TK.cnt (n + 1) (s + scl p.2.value p.2.rate)) = _
    rw [ih]
    simp
    omega
theorem tkOf_cnt (E : List KE) (id : Int) (n : ByteArray) : tkOf E id (1, n) = .cnt (E.filter (inM id (1, n))).length ((E.filter (inM id (1, n))).map fun p => scl p.2.value p.2.rate).sum := by
  unfold tkOf
  rw [show freshK ((1, n) : Met).1 = .cnt 0 0 from rfl, fold_cnt]
  simp
theorem fold_n (l : List KE) : ∀ k : TK, (l.foldl (fun k p => TK.take p.2 k) k).n = k.n + l.length := by
  induction l with
  | nil => intro k; simp
  | cons p l ih =>
    intro k
    rw [List.foldl_cons, ih, List.length_cons]
    have : (k.take p.2).n = k.n + 1 := by
      cases k with
      | cnt n s => rfl
      | gau n st v => cases hd : p.2.delta <;> simp [TK.take, TK.n, hd]
      | tim s sw xs => simp [TK.take, TK.n]
      | set n ms => rfl
    rw [this]
    omega
theorem fresh_n (k : Int) : (freshK k).n = 0 := by
  unfold freshK
  split
  · rfl
  · split
    · rfl
    · split <;> rfl
theorem tkOf_n (E : List KE) (id : Int) (m : Met) : (tkOf E id m).n = (E.filter (inM id m)).length := by
  unfold tkOf
  rw [fold_n, fresh_n, Int.zero_add]
/-- Of a window: all its events are counted. -/
theorem Told.counts {E : List KE} {g : GV} {id : Int} {T : List TL} (h : Told E g id T) : (T.map TL.c).sum = (cntW E id : Nat) := by
  have hn : (T.map TL.met).Nodup := h.rise.imp (fun {a b} hab e => by subst e; rw [ltM_irrefl] at hab; cases hab)
  have h1 : T.map TL.c = (T.map TL.met).map fun m => ((E.filter (inM id m)).length : Int) := by
    rw [List.map_map]
    refine List.map_congr_left fun t ht => ?_
    rw [h.eq t ht]
    show (tkOf E id t.met).n = _
    rw [tkOf_n]
    rfl
  rw [h1]
  have hc : ∀ p ∈ E.filter (fun p => decide (p.1 = id)), met p.2 ∈ T.map TL.met := fun p hp => by
    obtain ⟨p1, p2⟩ := List.mem_filter.1 hp
    exact (h.mem _).2 ⟨p, p1, by simpa [inM] using p2⟩
  have key : ∀ (l : List KE) (ms : List Met), ms.Nodup → (∀ p ∈ l, met p.2 ∈ ms) → (ms.map fun m => ((l.filter fun p => decide (met p.2 = m)).length : Int)).sum = l.length := by
    intro l ms hn hc
    induction l with
    | nil =>
      clear hn hc
      induction ms with
      | nil => rfl
      | cons a ms ih => simpa using ih
    | cons p l ih =>
      have ih := ih (fun q hq => hc q (List.mem_cons_of_mem _ hq))
      have hp := hc p (by simp)
      classical
      have step : ∀ ms : List Met, ms.Nodup → (ms.map fun m => (((p :: l).filter fun p => decide (met p.2 = m)).length : Int)).sum = (if met p.2 ∈ ms then 1 else 0) + (ms.map fun m => ((l.filter fun p => decide (met p.2 = m)).length : Int)).sum := by
        intro ms hn
        induction ms with
        | nil => simp
        | cons a ms ih2 =>
          rw [List.nodup_cons] at hn
          rw [List.map_cons, List.sum_cons, List.map_cons, List.sum_cons, ih2 hn.2]
          simp only [List.filter_cons]
          by_cases h1 : met p.2 = a
          · subst h1
            simp [hn.1]
            omega
          · simp [h1]
            omega
      rw [step ms hn, if_pos hp, ih]
      simp
      omega
  have := key _ _ hn hc
  unfold cntW
  rw [← this]
  congr 1
  refine List.map_congr_left fun m _ => ?_
  rw [List.filter_filter]
  congr 3
  funext p
  unfold inM
  rw [Bool.and_comm]
end Go.Proofs.YthbjpoiolmlpmaaGreatDoor
