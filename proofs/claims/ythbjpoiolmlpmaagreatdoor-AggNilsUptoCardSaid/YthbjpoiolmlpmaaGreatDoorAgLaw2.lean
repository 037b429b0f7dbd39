/- Laws of what is told: samples, members, gauges, orders. -/
import Derived.Test.YthbjpoiolmlpmaaGreatDoorAgLaw
set_option linter.unusedVariables false
set_option linter.unusedSimpArgs false
namespace Go.Proofs.YthbjpoiolmlpmaaGreatDoor
theorem fold_tim (l : List KE) : ∀ s sw xs, l.foldl (fun k p => TK.take p.2 k) (TK.tim s sw xs) = .tim (s + (l.map fun p => p.2.value).sum) (sw + (l.map fun p => scl 1000000 p.2.rate).sum) (xs ++ l.map fun p => p.2.value) := by
  induction l with
  | nil => intro s sw xs; simp
  | cons p l ih =>
    intro s sw xs
    rw [List.foldl_cons]
    show l.foldl _ (TK.tim (s + p.2.value) (sw + scl 1000000 p.2.rate) (xs ++ [p.2.value])) = _
    rw [ih]
    simp
    omega
theorem tkOf_tim (E : List KE) (id : Int) (n : ByteArray) : tkOf E id (3, n) = .tim ((E.filter (inM id (3, n))).map fun p => p.2.value).sum ((E.filter (inM id (3, n))).map fun p => scl 1000000 p.2.rate).sum ((E.filter (inM id (3, n))).map fun p => p.2.value) := by
  unfold tkOf
  rw [show freshK ((3, n) : Met).1 = .tim 0 0 [] from rfl, fold_tim]
  simp
def addMs (ms : List ByteArray) (l : List ByteArray) : List ByteArray := l.foldl addM ms
theorem fold_set (l : List KE) : ∀ n ms, l.foldl (fun k p => TK.take p.2 k) (TK.set n ms) = .set (n + l.length) (addMs ms (l.map fun p => p.2.member)) := by
  induction l with
  | nil => intro n ms; simp [addMs]
  | cons p l ih =>
    intro n ms
    rw [List.foldl_cons]
    show l.foldl _ (TK.set (n + 1) (addM ms p.2.member)) = _
    rw [ih]
    simp [addMs]
    omega
theorem tkOf_set (E : List KE) (id : Int) (n : ByteArray) : tkOf E id (4, n) = .set (E.filter (inM id (4, n))).length (addMs [] ((E.filter (inM id (4, n))).map fun p => p.2.member)) := by
  unfold tkOf
  rw [show freshK ((4, n) : Met).1 = .set 0 [] from rfl, fold_set]
  simp
theorem addM_mem (ms : List ByteArray) (x y : ByteArray) : y ∈ addM ms x ↔ y ∈ ms ∨ y = x := by
  unfold addM
  split
  · rename_i h
    have : x ∈ ms := hasM_iff.1 h
    constructor
    · exact .inl
    · rintro (h | rfl)
      · exact h
      · exact this
  · simp
theorem addM_nodup {ms : List ByteArray} (h : ms.Nodup) (x : ByteArray) : (addM ms x).Nodup := by
  unfold addM
  split
  · exact h
  · rename_i hn
    have : x ∉ ms := fun h => hn (hasM_iff.2 h)
    rw [List.nodup_append]
    refine ⟨h, by simp, fun a ha b hb => ?_⟩
    simp at hb
    subst hb
    exact fun e => this (e ▸ ha)
theorem addMs_mem : ∀ (l ms : List ByteArray) (y : ByteArray), y ∈ addMs ms l ↔ y ∈ ms ∨ y ∈ l
  | [], ms, y => by simp [addMs]
  | x :: l, ms, y => by
    show y ∈ addMs (addM ms x) l ↔ _
    rw [addMs_mem l, addM_mem, List.mem_cons, or_assoc]
theorem addMs_nodup : ∀ (l ms : List ByteArray), ms.Nodup → (addMs ms l).Nodup
  | [], ms, h => h
  | x :: l, ms, h => addMs_nodup l _ (addM_nodup h x)
theorem addMs_len : ∀ (l ms : List ByteArray), (addMs ms l).length ≤ ms.length + l.length
  | [], ms => by simp [addMs]
  | x :: l, ms => by
    have := addMs_len l (addM ms x)
    have h2 := addM_len ms x
    show (addMs (addM ms x) l).length ≤ _
    simp only [List.length_cons]
    omega
theorem sortI_pw (l : List Int) : (sortI l).Pairwise (· ≤ ·) := by
  have := List.pairwise_mergeSort (le := fun (x y : Int) => decide (x ≤ y)) (fun a b c h1 h2 => by simp at *; omega) (fun a b => by simp; omega) l
  exact this.imp (fun h => by simpa using h)
theorem sortI_mem_perm (l : List Int) : (sortI l).Perm l := List.mergeSort_perm _ _
theorem sum_perm {a b : List Int} (h : a.Perm b) : a.sum = b.sum := by
  induction h with
  | nil => rfl
  | cons x h ih => simp [ih]
  | swap x y l => simp; omega
  | trans h1 h2 ih1 ih2 => exact ih1.trans ih2
theorem sortI_sum (l : List Int) : (sortI l).sum = l.sum := sum_perm (sortI_mem_perm l)
theorem bytes_eta (b : ByteArray) : (⟨b.data.toList.toArray⟩ : ByteArray) = b := by simp
theorem sortS_perm0 (l : List ByteArray) : (sortS l).Perm l := by
  unfold sortS
  have h := (List.mergeSort_perm (l.map fun b => b.data.toList) fun x y => decide (x ≤ y)).map (fun l => (⟨l.toArray⟩ : ByteArray))
  rw [List.map_map] at h
  refine h.trans (.of_eq ?_)
  conv => rhs; rw [← List.map_id l]
  exact List.map_congr_left (fun b _ => by simp)
theorem sortS_pw {l : List ByteArray} (hn : l.Nodup) : (sortS l).Pairwise fun a b => sLt a b = true := by
  have h1 : ((l.map fun b => b.data.toList).mergeSort fun x y => decide (x ≤ y)).Pairwise (fun x y => x ≤ y) := by
    have := List.pairwise_mergeSort (le := fun (x y : List UInt8) => decide (x ≤ y)) (fun a b c h1 h2 => by
      simp only [decide_eq_true_eq] at *
      exact Std.le_trans h1 h2) (fun a b => by
      simp only [Bool.or_eq_true, decide_eq_true_eq]
      exact Std.le_total) (l.map fun b => b.data.toList)
    exact this.imp (fun h => by simpa using h)
  have h2 : ((l.map fun b => b.data.toList).mergeSort fun x y => decide (x ≤ y)).Nodup := by
    refine (List.mergeSort_perm _ _).nodup_iff.2 ?_
    refine List.Pairwise.map _ (fun a b hab e => hab ?_) hn
    exact Go.WideShapes.bytes_inj e
  unfold sortS
  refine List.Pairwise.map _ (fun a b hab => ?_) (h1.and h2)
  rw [sLt_eq, decide_eq_true_eq]
  show (⟨a.toArray⟩ : ByteArray).toList < (⟨b.toArray⟩ : ByteArray).toList
  rw [show (⟨a.toArray⟩ : ByteArray).toList = a by simp [ByteArray.toList_eq], show (⟨b.toArray⟩ : ByteArray).toList = b by simp [ByteArray.toList_eq]]
  exact Std.lt_of_le_of_ne hab.1 hab.2
theorem scl_unit {r : Int} (h : 1000 ≤ r ∧ r ≤ 1000000) : 1000000 ≤ scl 1000000 r := by
  unfold scl
  rw [Int.tdiv_eq_ediv_of_nonneg (by omega)]
  exact (Int.le_ediv_iff_mul_le (by omega)).2 (by omega)
theorem sum_ge (l : List Int) (k : Int) (h : ∀ x ∈ l, k ≤ x) : k * l.length ≤ l.sum := by
  induction l with
  | nil => simp
  | cons a l ih =>
    have h1 := h a (by simp)
    have h2 := ih (fun x hx => h x (List.mem_cons_of_mem _ hx))
    rw [List.length_cons, List.sum_cons, show ((l.length + 1 : Nat) : Int) = (l.length : Int) + 1 from rfl, Int.mul_add, Int.mul_one]
    omega
theorem told_pos {E : List KE} {g : GV} {id : Int} {T : List TL} (h : Told E g id T) {t : TL} (ht : t ∈ T) : 1 ≤ (E.filter (inM id t.met)).length := by
  obtain ⟨p, hp, hm⟩ := (h.mem t.met).1 (List.mem_map_of_mem ht)
  exact List.length_pos_of_mem (List.mem_filter.2 ⟨hp, hm⟩)
/-- A timer's tally. -/
theorem told_tim {E : List KE} (hE : ∀ p ∈ E, chk p.2 = 0) {g : GV} {id : Int} {T : List TL} (h : Told E g id T) {t : TL} (ht : t ∈ T) (hk : t.k = 3) :
    t.smp.Pairwise (· ≤ ·) ∧ t.smp.sum = t.sum ∧ (t.smp.length : Int) = t.c ∧ t.c * 1000000 ≤ t.wt := by
  have e := h.eq t ht
  rw [show t.met = (3, t.n) from by unfold TL.met; rw [hk]] at e
  unfold tlOf at e
  rw [tkOf_tim] at e
  rw [e]
  refine ⟨sortI_pw _, sortI_sum _, by show ((sortI _).length : Int) = _; rw [sortI_len]; simp [TK.tl, TK.n], ?_⟩
  have := sum_ge ((E.filter (inM id (3, t.n))).map fun p => scl 1000000 p.2.rate) 1000000 (fun x hx => by
    obtain ⟨p, hp, rfl⟩ := List.mem_map.1 hx
    exact scl_unit (chk_ok (hE p (List.mem_filter.1 hp).1)).2.2)
  show ((List.map _ _).length : Int) * 1000000 ≤ _
  simp only [List.length_map] at this ⊢
  rw [Int.mul_comm]
  exact this
/-- A set's tally. -/
theorem told_set {E : List KE} {g : GV} {id : Int} {T : List TL} (h : Told E g id T) {t : TL} (ht : t ∈ T) (hk : t.k = 4) :
    t.mem.Pairwise (fun a b => sLt a b = true) ∧ 1 ≤ t.mem.length ∧ (t.mem.length : Int) ≤ t.c := by
  have e := h.eq t ht
  have hm : t.met = (4, t.n) := by unfold TL.met; rw [hk]
  have hp := told_pos h ht
  rw [hm] at e hp
  unfold tlOf at e
  rw [tkOf_set] at e
  rw [e]
  have e1 : (addMs [] ((E.filter (inM id (4, t.n))).map fun p => p.2.member)).length ≤ (E.filter (inM id (4, t.n))).length := by
    have := addMs_len ((E.filter (inM id (4, t.n))).map fun p => p.2.member) []
    simpa using this
  have e2 : 1 ≤ (addMs [] ((E.filter (inM id (4, t.n))).map fun p => p.2.member)).length := by
    obtain ⟨p, hp⟩ := List.exists_mem_of_length_pos hp
    exact List.length_pos_of_mem ((addMs_mem _ _ _).2 (.inr (List.mem_map_of_mem hp)))
  refine ⟨sortS_pw (addMs_nodup _ _ .nil), ?_, ?_⟩
  · show 1 ≤ (sortS _).length
    rw [sortS_len]
    exact e2
  · show ((sortS _).length : Int) ≤ ((E.filter (inM id (4, t.n))).length : Int)
    rw [sortS_len]
    omega
/-- The same events of each metric: the same is told. -/
def SameTl (E E' : List KE) : Prop := ∀ id m, (E.any (inM id m) = E'.any (inM id m)) ∧ (E.any (inM id m) = true → ∀ b, (tkOf E id m).tl m b = (tkOf E' id m).tl m b)
theorem SameTl.told {E E' : List KE} (hs : SameTl E E') {g : GV} {id : Int} {T : List TL} (h : Told E g id T) : Told E' g id T := by
  refine ⟨h.rise, fun m => ?_, fun t ht => ?_⟩
  · rw [h.mem m, ← List.any_eq_true, ← List.any_eq_true, (hs id m).1]
  · have hm := List.any_eq_true.2 ((h.mem t.met).1 (List.mem_map_of_mem ht))
    rw [h.eq t ht]
    exact (hs id t.met).2 hm _
theorem SameTl.next {E E' : List KE} (hs : SameTl E E') (g : GV) (id : Int) : gNext E g id = gNext E' g id := by
  funext x
  unfold gNext
  rw [← (hs id (2, x)).1]
  split
  · rename_i h
    have := (hs id (2, x)).2 h ((g x).getD 0)
    exact congrArg some (congrArg TL.sum this)
  · rfl
theorem SameTl.tells {E E' : List KE} (hs : SameTl E E') {g g' : GV} {ids : List Int} {ws : List (Int × List TL)} (h : Tells E g ids ws g') : Tells E' g ids ws g' := by
  induction h with
  | nil g => exact .nil g
  | cons h t ih => rw [hs.next] at ih; exact .cons (hs.told h) ih
/-- Two neighbours change places. -/
theorem swap_same (a b : List KE) (p q : KE) (hk : ∀ r ∈ a ++ p :: q :: b, chk r.2 = 0) (hg : ¬ (p.2.kind = 2 ∧ q.2.kind = 2 ∧ p.2.name = q.2.name ∧ p.1 = q.1)) : SameTl (a ++ p :: q :: b) (a ++ q :: p :: b) := by
  intro id m
  have hany : ∀ f : KE → Bool, (a ++ p :: q :: b).any f = (a ++ q :: p :: b).any f := fun f => by
    simp only [List.any_append, List.any_cons]
    rw [Bool.or_left_comm (f p)]
  refine ⟨hany _, fun hm c => ?_⟩
  by_cases h1 : inM id m p = true ∧ inM id m q = true
  · obtain ⟨p1, p2⟩ := inM_iff.1 h1.1
    obtain ⟨q1, q2⟩ := inM_iff.1 h1.2
    have hpk := (chk_ok (hk p (by simp))).1
    have hpm : p.2.kind = m.1 := by rw [← p2]; rfl
    have hper : ((a ++ p :: q :: b).filter (inM id m)).Perm ((a ++ q :: p :: b).filter (inM id m)) := (List.Perm.append_left a (List.Perm.swap q p b)).filter _
    obtain ⟨mk, mn⟩ := m
    simp only at hpm
    have hne : mk ≠ 2 := fun e => hg ⟨hpm.trans e, by have := congrArg Prod.fst q2; simp only [met] at this; rw [this, e], by
      have e1 := congrArg Prod.snd p2; have e2 := congrArg Prod.snd q2; simp only [met] at e1 e2; rw [e1, e2], p1.trans q1.symm⟩
    have h4 : mk = 1 ∨ mk = 3 ∨ mk = 4 := by omega
    rcases h4 with rfl | rfl | rfl
    · rw [tkOf_cnt, tkOf_cnt, hper.length_eq, sum_perm (hper.map _)]
    · rw [tkOf_tim, tkOf_tim]
      unfold TK.tl TK.n TK.sum TK.wt TK.smp TK.mem
      simp only
      rw [(hper.map _).length_eq, sum_perm (hper.map fun p : KE => p.2.value), sum_perm (hper.map fun p : KE => scl 1000000 p.2.rate), sortI_perm (hper.map fun p : KE => p.2.value)]
    · rw [tkOf_set, tkOf_set]
      unfold TK.tl TK.n TK.sum TK.wt TK.smp TK.mem
      simp only
      have hp2 : (addMs [] (((a ++ p :: q :: b).filter (inM id (4, mn))).map fun p => p.2.member)).Perm (addMs [] (((a ++ q :: p :: b).filter (inM id (4, mn))).map fun p => p.2.member)) := by
        refine (List.perm_ext_iff_of_nodup (addMs_nodup _ _ .nil) (addMs_nodup _ _ .nil)).2 fun y => ?_
        rw [addMs_mem, addMs_mem, (hper.map _).mem_iff]
      rw [hper.length_eq, sortS_perm hp2]
  · have hf : (a ++ p :: q :: b).filter (inM id m) = (a ++ q :: p :: b).filter (inM id m) := by
      simp only [List.filter_append, List.filter_cons]
      congr 1
      by_cases g1 : inM id m p = true
      · have g2 : ¬ inM id m q = true := fun e => h1 ⟨g1, e⟩
        simp [g1, g2]
      · simp [g1]
    unfold tkOf
    rw [hf]
end Go.Proofs.YthbjpoiolmlpmaaGreatDoor
