/- Plain law of sums: two archives, the method sum, no share asked for, points at rising seconds. -/
import Derived.Test.YtdjpcinibgbglaaFindP
import Derived.Test.YtdjpcinibgbglaaBys
set_option linter.unusedVariables false
set_option linter.unusedSimpArgs false
namespace Go.Proofs.Ytdjpcinibgbglaa
open Go.RowKit
def Band.mem (b : Band) (p : Pt) : Prop := ∃ k : Nat, b.pl[k]? = some (some p)
theorem mem_known {b : Band} (h : b.ok) {p : Pt} : b.mem p ↔ (b.known p.t = some p.v) := by
  constructor
  · rintro ⟨k, hk⟩
    have h1 := h.pts k p hk
    unfold Band.known
    rw [if_neg (by omega), h1.2.2.2.1, hk]
    simp
  · intro hk
    unfold Band.known at hk
    split at hk
    · cases hk
    · split at hk
      · rename_i q hq
        split at hk
        · rename_i e
          injection hk with hk
          exact ⟨b.place p.t, by rw [hq]; cases q; cases p; simp_all⟩
        · cases hk
      · cases hk
theorem mem_pts {b : Band} {p : Pt} : p ∈ b.pts ↔ b.mem p := by
  have hp : b.pts.Perm (b.pl.filterMap id) := List.mergeSort_perm _ _
  rw [hp.mem_iff]
  simp only [List.mem_filterMap, id, exists_eq_right]
  constructor
  · intro h
    obtain ⟨k, hk, e⟩ := List.mem_iff_getElem.1 h
    exact ⟨k, by rw [List.getElem?_eq_getElem hk, e]⟩
  · rintro ⟨k, hk⟩
    exact List.mem_of_getElem? hk
theorem pts_ok2 {b : Band} (h : b.ok) : PtsOk b b.pts := by
  have hp : b.pts.Perm (b.pl.filterMap id) := List.mergeSort_perm _ _
  have hs : b.pts.Pairwise (fun a c => a.t ≤ c.t) := by
    have := List.pairwise_mergeSort (le := fun p q : Pt => decide (p.t ≤ q.t)) (fun a b c h1 h2 => by simp at *; omega) (fun a b => by simp; omega) (b.pl.filterMap id)
    exact this.imp (fun h => by simpa using h)
  exact ptsOk h hp hs
theorem rise_ext {l r : List Pt} (hl : l.Pairwise (fun a c => a.t < c.t)) (hr : r.Pairwise (fun a c => a.t < c.t)) (h : ∀ p, p ∈ l ↔ p ∈ r) : l = r := by
  have nd : ∀ {l : List Pt}, l.Pairwise (fun a c => a.t < c.t) → l.Nodup := fun h => h.imp (fun {a c} h e => by rw [e] at h; omega)
  have hp : l.Perm r := (List.perm_ext_iff_of_nodup (nd hl) (nd hr)).2 h
  exact List.Perm.eq_of_pairwise (le := fun a c : Pt => a.t < c.t) (fun a b _ _ h1 h2 => by omega) hl hr hp
/-- What an archive knows from X on is what of its points lies there. -/
theorem knowns_pts {b : Band} (h : b.ok) {X : Int} {n : Nat} (hX : X % b.step = 0) (hX0 : 0 ≤ X) : knowns b X n = (b.pts.filter fun p => decide (X ≤ p.t ∧ p.t < X + (n : Int) * b.step)).map (·.v) := by
  have hb := h.b
  have e : (List.range n).filterMap (fun (k : Nat) => (b.known (X + (k : Int) * b.step)).map fun v => (⟨X + (k : Int) * b.step, v⟩ : Pt)) = b.pts.filter fun p => decide (X ≤ p.t ∧ p.t < X + (n : Int) * b.step) := by
    apply rise_ext
    · rw [List.pairwise_filterMap]
      refine List.pairwise_lt_range.imp ?_
      intro k k' hk p hp q hq
      simp only [Option.map_eq_some_iff] at hp hq
      obtain ⟨_, _, rfl⟩ := hp
      obtain ⟨_, _, rfl⟩ := hq
      have := Int.mul_lt_mul_of_pos_right (show (k : Int) < (k' : Int) by omega) (show 0 < b.step by omega)
      show X + (k : Int) * b.step < X + (k' : Int) * b.step
      omega
    · exact (pts_ok2 h).rise.filter _
    · intro p
      simp only [List.mem_filterMap, List.mem_range, Option.map_eq_some_iff, List.mem_filter, decide_eq_true_eq]
      rw [mem_pts, mem_known h]
      constructor
      · rintro ⟨k, hk, v, hv, rfl⟩
        have h1 := Int.mul_lt_mul_of_pos_right (show (k : Int) < (n : Int) by omega) (show 0 < b.step by omega)
        have h2 := Int.mul_nonneg (Int.natCast_nonneg k) (show 0 ≤ b.step by omega)
        exact ⟨hv, by dsimp only; omega, by dsimp only; omega⟩
      · rintro ⟨hk, h1, h2⟩
        have hm := ((mem_known h).2 hk)
        obtain ⟨j, hj⟩ := hm
        have hp := (h.pts j p hj).2.2.1
        have d1 := Int.mul_ediv_add_emod p.t b.step
        have d2 := Int.mul_ediv_add_emod X b.step
        have d3 : X / b.step ≤ p.t / b.step := Int.ediv_le_ediv (by omega) h1
        obtain ⟨k, hkk⟩ : ∃ k : Nat, p.t / b.step - X / b.step = (k : Int) := ⟨(p.t / b.step - X / b.step).toNat, by omega⟩
        have e1 : X + (k : Int) * b.step = p.t := by rw [← hkk, Int.sub_mul, Int.mul_comm (p.t / b.step), Int.mul_comm (X / b.step)]; omega
        refine ⟨k, ?_, p.v, by rw [e1]; exact hk, by rw [e1]⟩
        have h3 : (k : Int) * b.step < (n : Int) * b.step := by omega
        have := Int.lt_of_mul_lt_mul_right h3 (show 0 ≤ b.step by omega)
        omega
  rw [← e, List.map_filterMap]
  unfold knowns
  congr 1
  funext k
  cases b.known (X + (k : Int) * b.step) <;> rfl
theorem mem_put {b : Band} (h : b.ok) {t v : Int} (ht : 0 ≤ t) {p : Pt} : (b.put t v).mem p ↔ p = ⟨t - t % b.step, v⟩ ∨ (b.mem p ∧ b.place p.t ≠ b.place t) := by
  have hb := h.b
  have hl := (place_nat hb.1 hb.2.2.1 ht).2
  unfold Band.mem Band.put
  dsimp only
  constructor
  · rintro ⟨k, hk⟩
    by_cases e : b.place t = k
    · subst e
      rw [List.getElem?_set_self hl] at hk
      simp at hk
      exact .inl hk.symm
    · rw [List.getElem?_set_ne e] at hk
      exact .inr ⟨⟨k, hk⟩, by rw [(h.pts k p hk).2.2.2.1]; exact fun e2 => e e2.symm⟩
  · rintro (rfl | ⟨⟨k, hk⟩, hne⟩)
    · exact ⟨b.place t, by rw [List.getElem?_set_self hl]⟩
    · refine ⟨k, ?_⟩
      rw [List.getElem?_set_ne, hk]
      rw [(h.pts k p hk).2.2.2.1] at hne
      exact fun e => hne e.symm
theorem place_eq {b : Band} (h : b.ok) {i j : Int} (hi : 0 ≤ i) (hj : 0 ≤ j) (hi0 : i % b.step = 0) (hj0 : j % b.step = 0) (e : b.place i = b.place j) (hlt : j < i) : j ≤ i - reachS b.spc := by
  have hb := h.b
  have p1 := (place_nat hb.1 hb.2.2.1 hi).1
  have p2 := (place_nat hb.1 hb.2.2.1 hj).1
  rw [e, ← p2] at p1
  have d1 := Int.mul_ediv_add_emod i b.step
  have d2 := Int.mul_ediv_add_emod j b.step
  have d3 := Int.mul_ediv_add_emod (i / b.step) (b.n : Int)
  have d4 := Int.mul_ediv_add_emod (j / b.step) (b.n : Int)
  have hlt2 : j / b.step < i / b.step := by
    apply Decidable.byContradiction
    intro hc
    have := Int.mul_le_mul_of_nonneg_left (show i / b.step ≤ j / b.step by omega) (show 0 ≤ b.step by omega)
    omega
  have hq : (j / b.step) / (b.n : Int) < (i / b.step) / (b.n : Int) := by
    apply Decidable.byContradiction
    intro hc
    have := Int.mul_le_mul_of_nonneg_left (show (i / b.step) / (b.n : Int) ≤ (j / b.step) / (b.n : Int) by omega) (show 0 ≤ (b.n : Int) by omega)
    omega
  have h3 := Int.mul_le_mul_of_nonneg_left (show (j / b.step) / (b.n : Int) + 1 ≤ (i / b.step) / (b.n : Int) by omega) (show 0 ≤ (b.n : Int) by omega)
  rw [Int.mul_add, Int.mul_one] at h3
  have h4 : j / b.step + (b.n : Int) ≤ i / b.step := by omega
  have h5 := Int.mul_le_mul_of_nonneg_left h4 (show 0 ≤ b.step by omega)
  rw [Int.mul_add] at h5
  show j ≤ i - b.step * (b.n : Int)
  omega
/-- A put at the newest interval: what else is known within the reach stays. -/
theorem known_put_ne {b : Band} (h : b.ok) {t v j : Int} (ht : 0 ≤ t) (hv : (b.put t v).ok) (hmax : ∀ p, b.mem p → p.t ≤ t - t % b.step) (hj : j ≠ t - t % b.step) (hr : t - t % b.step - reachS b.spc < j) : (b.put t v).known j = b.known j := by
  have hb := h.b
  have hm := emod_le' ht hb.1
  have hsm := sub_mod (t := t) hb.1
  have hpl : b.place (t - t % b.step) = b.place t := by unfold Band.place; rw [hsm.2]
  have key : ∀ z, (b.put t v).known j = some z ↔ b.known j = some z := by
    intro z
    have k1 := mem_known hv (p := ⟨j, z⟩)
    have k2 := mem_known h (p := ⟨j, z⟩)
    dsimp only at k1 k2
    rw [← k1, ← k2, mem_put h ht]
    constructor
    · rintro (e | ⟨e, _⟩)
      · injection e with e1 _
        exact absurd e1 hj
      · exact e
    · intro e
      refine .inr ⟨e, fun hp => ?_⟩
      obtain ⟨k, hk⟩ := e
      have hk2 := h.pts k _ hk
      have hle := hmax _ ⟨k, hk⟩
      dsimp only at hp hk2 hle
      have := place_eq h (i := t - t % b.step) (j := j) (by omega) hk2.1 hsm.1 hk2.2.2.1 (by rw [hpl]; exact hp.symm) (by omega)
      omega
  cases h1 : b.known j with
  | none =>
    cases h2 : (b.put t v).known j with
    | none => rfl
    | some z => rw [(key z).1 h2] at h1; cases h1
  | some z => exact (key z).2 h1
theorem last_max {l : List Pt} (h : l.Pairwise (fun a c => a.t < c.t)) (hne : l ≠ []) (q : Pt) (hq : q ∈ l) : q.t ≤ (l.getLast hne).t := by
  obtain ⟨i, hi, e⟩ := List.mem_iff_getElem.1 hq
  rw [List.getLast_eq_getElem]
  by_cases h1 : i = l.length - 1
  · subst h1; rw [e]; exact Int.le_refl _
  · have := List.pairwise_iff_getElem.1 h i (l.length - 1) hi (by omega) (by omega)
    rw [e] at this
    omega
theorem fm_congr {α β : Type} (f g : α → Option β) : ∀ (l : List α), (∀ x ∈ l, f x = g x) → l.filterMap f = l.filterMap g
  | [], _ => rfl
  | x :: l, h => by
    rw [List.filterMap_cons, List.filterMap_cons, h x (by simp), fm_congr f g l (fun y hy => h y (by simp [hy]))]
structure SumI (A B : Band) (T : Int) : Prop where
  top : ∀ p, A.mem p → p.t ≤ T
  none_ : (∀ p, ¬ A.mem p) → ∀ x, ¬ B.mem x
  some_ : ∀ E, (∃ p, A.mem p ∧ p.t = E) → (∀ q, A.mem q → q.t ≤ E) → (∃ x, B.mem x ∧ x.t = E - E % B.step) ∧ ∀ x, B.mem x → E - reachS A.spc < x.t → x.v = (knowns A x.t (B.step / A.step).toNat).sum
theorem mod_of_dvd {t a b : Int} (ha : 1 ≤ a) (hb : 1 ≤ b) (h : b % a = 0) (ht : 0 ≤ t) : t - t % b ≤ t - t % a ∧ (t - t % b) % a = 0 ∧ (t - t % a) - (t - t % a) % b = t - t % b ∧ t - t % a < t - t % b + b := by
  have d1 := Int.mul_ediv_add_emod t a
  have d2 := Int.mul_ediv_add_emod t b
  have m1 := emod_le' ht ha
  have m2 := emod_le' ht hb
  have h1 : (t - t % b) % a = 0 := by
    have e : t - t % b = b * (t / b) := by omega
    rw [e, Int.mul_emod, h]; simp
  have h2 : t - t % b ≤ t - t % a := by
    have e3 := Int.mul_ediv_add_emod (t - t % b) a
    have e4 : (t - t % b) / a ≤ t / a := Int.ediv_le_ediv (by omega) (by omega)
    have e5 := Int.mul_le_mul_of_nonneg_left e4 (show 0 ≤ a by omega)
    omega
  refine ⟨h2, h1, ?_, by omega⟩
  have e6 : (t - t % a) / b = t / b := by
    have g1 : t / b ≤ (t - t % a) / b := by
      have := Int.ediv_le_ediv (show 0 < b by omega) h2
      rwa [(sub_mod hb).2] at this
    have g2 : (t - t % a) / b ≤ t / b := Int.ediv_le_ediv (by omega) (by omega)
    omega
  have e7 := Int.mul_ediv_add_emod (t - t % a) b
  rw [e6] at e7
  omega
theorem al_ne {X Y b : Int} (hb : 1 ≤ b) (hX : X % b = 0) (hY : Y % b = 0) (h : X ≠ Y) : X + b ≤ Y ∨ Y + b ≤ X := by
  have d1 := Int.mul_ediv_add_emod X b
  have d2 := Int.mul_ediv_add_emod Y b
  rcases Int.lt_trichotomy (X / b) (Y / b) with h1 | h1 | h1
  · have := Int.mul_le_mul_of_nonneg_left (show X / b + 1 ≤ Y / b by omega) (show 0 ≤ b by omega)
    rw [Int.mul_add] at this
    omega
  · rw [h1] at d1; omega
  · have := Int.mul_le_mul_of_nonneg_left (show Y / b + 1 ≤ X / b by omega) (show 0 ≤ b by omega)
    rw [Int.mul_add] at this
    omega
theorem SumI.step {A B : Band} {T t v : Int} (hI : SumI A B T) (hA : A.ok) (hB : B.ok) (hp : okPair A.spc B.spc = true) (ht : T ≤ t) (h0 : 0 ≤ t) (hA' : (A.put t v).ok)
    (hB' : (B.put (t - t % B.step) (knowns (A.put t v) (t - t % B.step) (B.step / A.step).toNat).sum).ok) :
    knowns (A.put t v) (t - t % B.step) (B.step / A.step).toNat ≠ [] ∧ SumI (A.put t v) (B.put (t - t % B.step) (knowns (A.put t v) (t - t % B.step) (B.step / A.step).toNat).sum) t := by
  unfold okPair at hp
  simp only [Bool.and_eq_true] at hp
  have q1 : B.step % A.step = 0 := of_decide_eq_true hp.1.1.1
  have q2 : A.step < B.step := of_decide_eq_true hp.1.1.2
  have q4 : B.step / A.step ≤ (A.n : Int) := of_decide_eq_true hp.2
  have ha := hA.b
  have hb := hB.b
  have hmd := mod_of_dvd ha.1 hb.1 q1 h0
  have ma := emod_le' h0 ha.1
  have mb := emod_le' h0 hb.1
  have sa := sub_mod (t := t) ha.1
  have sb := sub_mod (t := t) hb.1
  obtain ⟨n, hn⟩ : ∃ n : Nat, B.step / A.step = (n : Int) := ⟨(B.step / A.step).toNat, by have := Int.ediv_nonneg (show 0 ≤ B.step by omega) (show 0 ≤ A.step by omega); omega⟩
  have hnb : (n : Int) * A.step = B.step := by
    have := Int.mul_ediv_add_emod B.step A.step
    rw [hn, q1] at this
    rw [Int.mul_comm]; omega
  rw [hn] at q4
  have hnn : (B.step / A.step).toNat = n := by rw [hn]; rfl
  rw [hnn] at hB' ⊢
  obtain ⟨X, hX⟩ : ∃ X, X = t - t % B.step := ⟨_, rfl⟩
  obtain ⟨i, hi⟩ : ∃ i, i = t - t % A.step := ⟨_, rfl⟩
  rw [← hX] at hB' hmd sb ⊢
  rw [← hi] at hmd sa
  obtain ⟨ks, hks⟩ : ∃ ks, ks = knowns (A.put t v) X n := ⟨_, rfl⟩
  have hkn : (A.put t v).known i = some v := by rw [hi]; exact known_put hA h0
  have hne : ks ≠ [] := by
    have hm : (A.put t v).mem ⟨i, v⟩ := (mem_known hA').2 hkn
    rw [hks, knowns_pts hA' (by show X % A.step = 0; exact hmd.2.1) (by omega)]
    intro e
    have h1 : (⟨i, v⟩ : Pt) ∈ (A.put t v).pts.filter fun p => decide (X ≤ p.t ∧ p.t < X + (n : Int) * (A.put t v).step) := by
      rw [List.mem_filter]
      refine ⟨mem_pts.2 hm, ?_⟩
      show decide (X ≤ i ∧ i < X + (n : Int) * A.step) = true
      rw [hnb]
      exact decide_eq_true ⟨hmd.1, hmd.2.2.2⟩
    rw [List.map_eq_nil_iff] at e
    rw [e] at h1
    cases h1
  rw [← hks] at hB' ⊢
  refine ⟨hne, ?_, ?_, ?_⟩
  · intro p hpm
    rcases (mem_put hA h0).1 hpm with rfl | ⟨h1, _⟩
    · show t - t % A.step ≤ t; omega
    · have := hI.top p h1; omega
  · intro h x hx
    exact absurd ((mem_known hA' (p := ⟨i, v⟩)).2 hkn) (h _)
  · intro E hE hmax
    have hEi : E = i := by
      obtain ⟨p, hpm, rfl⟩ := hE
      have h1 := hmax _ ((mem_known hA' (p := ⟨i, v⟩)).2 hkn)
      dsimp only at h1
      rcases (mem_put hA h0).1 hpm with rfl | ⟨h2, _⟩
      · exact hi.symm
      · have h3 := hI.top p h2
        obtain ⟨k, hk⟩ := h2
        have h4 := hA.pts k p hk
        have h5 : p.t / A.step ≤ t / A.step := Int.ediv_le_ediv (by omega) (by omega)
        have h6 := Int.mul_le_mul_of_nonneg_left h5 (show 0 ≤ A.step by omega)
        have d1 := Int.mul_ediv_add_emod p.t A.step
        have d2 := Int.mul_ediv_add_emod t A.step
        omega
    subst hEi
    have hXX : X - X % B.step = X := by rw [sb.1]; omega
    constructor
    · refine ⟨⟨X, ks.sum⟩, ?_, ?_⟩
      · refine (mem_put hB (by omega)).2 (.inl ?_)
        rw [hXX]
      · show X = E - E % B.step
        rw [hmd.2.2.1]
    · intro x hx hgt
      rw [Band.put_spc] at hgt
      rcases (mem_put hB (show 0 ≤ X by omega)).1 hx with rfl | ⟨h1, h2⟩
      · show ks.sum = (knowns (A.put t v) (X - X % B.step) _).sum
        rw [hXX, hks]
        congr 2
        exact hnn.symm
      · have hxm : x.t % B.step = 0 := by obtain ⟨k, hk⟩ := h1; exact (hB.pts k x hk).2.2.1
        have hxX : x.t ≠ X := fun e => h2 (by rw [e])
        have hal := al_ne hb.1 hxm sb.1 hxX
        have hold : ∃ E0, (∃ p, A.mem p ∧ p.t = E0) ∧ (∀ q, A.mem q → q.t ≤ E0) ∧ E0 ≤ E := by
          have hex : ∃ p, A.mem p := by
            apply Classical.byContradiction
            intro hc
            exact hI.none_ (fun p hp => hc ⟨p, hp⟩) x h1
          have hpne : A.pts ≠ [] := by
            obtain ⟨p, hp⟩ := hex
            intro e
            have := mem_pts.2 hp
            rw [e] at this
            cases this
          have hr := (pts_ok2 hA).rise
          refine ⟨(A.pts.getLast hpne).t, ⟨_, mem_pts.1 (List.getLast_mem hpne), rfl⟩, fun q hq => ?_, ?_⟩
          · exact last_max hr hpne q (mem_pts.2 hq)
          · have hl := mem_pts.1 (List.getLast_mem hpne)
            have h3 := hI.top _ hl
            obtain ⟨k, hk⟩ := hl
            have h4 := hA.pts k _ hk
            generalize (A.pts.getLast hpne).t = e at *
            have h5 : e / A.step ≤ t / A.step := Int.ediv_le_ediv (by omega) (by omega)
            have h6 := Int.mul_le_mul_of_nonneg_left h5 (show 0 ≤ A.step by omega)
            have d1 := Int.mul_ediv_add_emod e A.step
            have d2 := Int.mul_ediv_add_emod t A.step
            omega
        obtain ⟨E0, hE0, hmax0, hle0⟩ := hold
        have hv := (hI.some_ E0 hE0 hmax0).2 x h1 (by omega)
        rw [hv]
        congr 1
        unfold knowns
        rw [show (A.put t v).step = A.step from rfl, show (B.put X ks.sum).step = B.step from rfl, hnn]
        refine fm_congr _ _ _ (fun k hk => ?_)
        rw [List.mem_range] at hk
        have k1 := Int.mul_nonneg (Int.natCast_nonneg k) (show 0 ≤ A.step by omega)
        have k2 : ((k : Int) + 1) * A.step ≤ (n : Int) * A.step := Int.mul_le_mul_of_nonneg_right (by omega) (by omega)
        rw [Int.add_mul, Int.one_mul, hnb] at k2
        refine (known_put_ne hA h0 hA' (fun p hp => ?_) ?_ ?_).symm
        · rw [← hi]
          have := hmax0 p hp
          omega
        · rw [← hi]; omega
        · rw [← hi]; omega
structure FS (f : Fl) (a b : Spc) (T : Int) : Prop where
  m : f.m = 2
  x : f.xff = 0
  bands : ∃ A B, f.bands = [A, B] ∧ A.spc = a ∧ B.spc = b ∧ SumI A B T
theorem newB_mem {s : Spc} (p : Pt) : ¬ (newB s).mem p := by
  rintro ⟨k, hk⟩
  unfold newB at hk
  simp only at hk
  rw [List.getElem?_replicate] at hk
  split at hk <;> simp at hk
theorem fs_new {a b : Spc} (h : (check [a, b]).2 = 0) : FS (newF [a, b] 2 0) a b 0 := by
  refine ⟨rfl, rfl, newB a, newB b, rfl, newB_spc (chk_at h (show [a, b][0]? = some a from rfl)).2, newB_spc (chk_at h (show [a, b][1]? = some b from rfl)).2, ?_, ?_, ?_⟩
  · intro p hp; exact absurd hp (newB_mem p)
  · intro _ x hx; exact absurd hx (newB_mem x)
  · rintro E ⟨p, hp, _⟩; exact absurd hp (newB_mem p)
theorem SumI.mono {A B : Band} {T T' : Int} (h : SumI A B T) (hT : T ≤ T') : SumI A B T' := ⟨fun p hp => by have := h.top p hp; omega, h.none_, h.some_⟩
theorem fs_step {f : Fl} {a b : Spc} {T t v : Int} (hf : f.ok) (h : FS f a b T) (ht : T ≤ t) (h0 : 0 ≤ T) (hok : (f.update t v t).1.ok) : FS (f.update t v t).1 a b t := by
  obtain ⟨A, B, hb, e1, e2, hI⟩ := h.bands
  by_cases hc : sec t = true ∧ fitV v 1 = true
  · rw [upd_ok hf hc.1 hc.2] at hok ⊢
    have hA := hf.bands A (by rw [hb]; simp)
    have hB := hf.bands B (by rw [hb]; simp)
    have hp := hf.pairs 0 A B (by rw [hb]; rfl) (by rw [hb]; rfl)
    have hrA := hA.b
    have hup : upB f.m f.xff t v 0 f.bands = A.put t v :: rollB 2 0 t (A.put t v) [B] := by
      rw [hb, h.m, h.x]
      simp only [upB]
      rw [if_pos (by omega)]
    rw [hup] at hok ⊢
    have hA' : (A.put t v).ok := hok.bands _ (by simp)
    have hBstep : B.step = b.1 := by rw [← e2]; rfl
    have key : knowns (A.put t v) (t - t % B.step) (B.step / A.step).toNat ≠ [] → rollB 2 0 t (A.put t v) [B] = [B.put (t - t % B.step) (knowns (A.put t v) (t - t % B.step) (B.step / A.step).toNat).sum] := by
      intro hne
      simp only [rollB]
      rw [show (A.put t v).step = A.step from rfl]
      rw [if_neg]
      · rfl
      · rintro (e | e)
        · exact hne e
        · omega
    have hknown : knowns (A.put t v) (t - t % B.step) (B.step / A.step).toNat ≠ [] := by
      unfold okPair at hp
      simp only [Bool.and_eq_true] at hp
      have q1 : B.step % A.step = 0 := of_decide_eq_true hp.1.1.1
      have hrB := hB.b
      have hmd := mod_of_dvd hrA.1 hrB.1 q1 (show 0 ≤ t by omega)
      have hnb : ((B.step / A.step).toNat : Int) * A.step = B.step := by
        have h1 := Int.mul_ediv_add_emod B.step A.step
        rw [q1] at h1
        rw [Int.toNat_of_nonneg (Int.ediv_nonneg (by omega) (by omega)), Int.mul_comm]; omega
      have hkn : (A.put t v).known (t - t % A.step) = some v := known_put hA (by omega)
      have hm : (A.put t v).mem ⟨t - t % A.step, v⟩ := (mem_known hA').2 hkn
      have mb := emod_le' (show 0 ≤ t by omega) hrB.1
      rw [knowns_pts hA' (by show (t - t % B.step) % A.step = 0; exact hmd.2.1) (by omega)]
      intro e
      have h1 : (⟨t - t % A.step, v⟩ : Pt) ∈ (A.put t v).pts.filter fun p => decide (t - t % B.step ≤ p.t ∧ p.t < t - t % B.step + ((B.step / A.step).toNat : Int) * (A.put t v).step) := by
        rw [List.mem_filter]
        refine ⟨mem_pts.2 hm, ?_⟩
        show decide (t - t % B.step ≤ t - t % A.step ∧ t - t % A.step < t - t % B.step + ((B.step / A.step).toNat : Int) * A.step) = true
        rw [hnb]
        exact decide_eq_true ⟨hmd.1, hmd.2.2.2⟩
      rw [List.map_eq_nil_iff] at e
      rw [e] at h1
      cases h1
    rw [key hknown] at hok ⊢
    have hB' := hok.bands _ (show B.put (t - t % B.step) (knowns (A.put t v) (t - t % B.step) (B.step / A.step).toNat).sum ∈ _ by simp)
    have hst := hI.step hA hB hp ht (by omega) hA' hB'
    exact ⟨h.m, h.x, _, _, rfl, by rw [Band.put_spc, e1], by rw [Band.put_spc, e2], hst.2⟩
  · have e : (f.update t v t).1 = f := by
      unfold Fl.update
      rw [if_pos]
      cases h1 : sec t <;> cases h2 : fitV v 1 <;> simp_all
    rw [e]
    exact ⟨h.m, h.x, A, B, hb, e1, e2, hI.mono ht⟩
/-- What the two lists of points say of one another. -/
theorem fs_end {f : Fl} {a b : Spc} {T : Int} (hf : f.ok) (h : FS f a b T) : ∃ A B, f.bands = [A, B] ∧ A.spc = a ∧ B.spc = b ∧ (A.pts = [] → B.pts = []) ∧
    ∀ (hne : A.pts ≠ []), (∃ x ∈ B.pts, (A.pts.getLast hne).t - a.1 * a.2 < x.t) ∧ ∀ x ∈ B.pts, (A.pts.getLast hne).t - a.1 * a.2 < x.t → x.v = ((A.pts.filter fun p => decide (x.t ≤ p.t ∧ p.t < x.t + b.1)).map (·.v)).sum := by
  obtain ⟨A, B, hb, e1, e2, hI⟩ := h.bands
  have hA := hf.bands A (by rw [hb]; simp)
  have hB := hf.bands B (by rw [hb]; simp)
  have hp := hf.pairs 0 A B (by rw [hb]; rfl) (by rw [hb]; rfl)
  unfold okPair at hp
  simp only [Bool.and_eq_true] at hp
  have q1 : B.step % A.step = 0 := of_decide_eq_true hp.1.1.1
  have q2 : A.step < B.step := of_decide_eq_true hp.1.1.2
  have q4 : B.step / A.step ≤ (A.n : Int) := of_decide_eq_true hp.2
  have ha := hA.b
  have hbb := hB.b
  have hBle : B.step ≤ reachS A.spc := by
    have h1 := Int.mul_ediv_add_emod B.step A.step
    have h2 := Int.mul_le_mul_of_nonneg_left q4 (show 0 ≤ A.step by omega)
    show B.step ≤ A.step * (A.n : Int)
    omega
  have hra : reachS A.spc = a.1 * a.2 := by rw [e1]; rfl
  refine ⟨A, B, hb, e1, e2, ?_, ?_⟩
  · intro hnil
    cases hB2 : B.pts with
    | nil => rfl
    | cons x l =>
      exfalso
      refine hI.none_ (fun p hp => ?_) x (mem_pts.1 (by rw [hB2]; simp))
      have := mem_pts.2 hp
      rw [hnil] at this
      cases this
  · intro hne
    have hr := (pts_ok2 hA).rise
    have hl := mem_pts.1 (List.getLast_mem hne)
    obtain ⟨⟨x, hx, hxt⟩, hall⟩ := hI.some_ (A.pts.getLast hne).t ⟨_, hl, rfl⟩ (fun q hq => last_max hr hne q (mem_pts.2 hq))
    obtain ⟨k, hk⟩ := hl
    have hE := hA.pts k _ hk
    have hm := emod_le' hE.1 hbb.1
    rw [← hra]
    refine ⟨⟨x, mem_pts.2 hx, by rw [hxt]; omega⟩, fun y hy hgt => ?_⟩
    have hym := mem_pts.1 hy
    have hv := hall y hym hgt
    obtain ⟨j, hj⟩ := hym
    have hyp := hB.pts j y hj
    have hmod : y.t % A.step = 0 := by
      have h1 := mod_of_dvd (t := y.t) ha.1 hbb.1 q1 hyp.1
      rw [hyp.2.2.1] at h1
      have := h1.2.1
      rwa [Int.sub_zero] at this
    have hnb : ((B.step / A.step).toNat : Int) * A.step = B.step := by
      have h1 := Int.mul_ediv_add_emod B.step A.step
      rw [q1] at h1
      rw [Int.toNat_of_nonneg (Int.ediv_nonneg (by omega) (by omega)), Int.mul_comm]; omega
    rw [hv, knowns_pts hA hmod hyp.1, hnb]
    rw [show B.step = b.1 by rw [← e2]; rfl]
theorem part_bd {A : Band} (hA : A.ok) (q : Pt → Bool) (k : Nat) : I128 (((A.pts.take k).filter q).map (·.v)).sum := by
  have hb := hA.b
  have h1 := sum_le (B := 1208925819614629174706176 * A.step) (((A.pts.take k).filter q).map (·.v)) (fun z hz => by
    rw [List.mem_map] at hz
    obtain ⟨p, hp, rfl⟩ := hz
    have hp2 := List.mem_of_mem_take (List.mem_filter.1 hp).1
    exact ((pts_ok2 hA).each p hp2).2.2.2)
  have h2 : (((A.pts.take k).filter q).map (·.v)).length ≤ A.n := by
    rw [List.length_map]
    have := List.length_filter_le q (A.pts.take k)
    have := List.length_take_le k A.pts
    have := (pts_ok2 hA).len
    have := List.length_take_le' k A.pts
    omega
  have h3 : ((((A.pts.take k).filter q).map (·.v)).length : Int) * (1208925819614629174706176 * A.step) ≤ (A.n : Int) * (1208925819614629174706176 * A.step) := Int.mul_le_mul_of_nonneg_right (by omega) (by omega)
  have h4 : (A.n : Int) * (1208925819614629174706176 * A.step) = 1208925819614629174706176 * (A.step * (A.n : Int)) := by rw [Int.mul_left_comm, Int.mul_comm (A.n : Int)]
  have h5 : A.step * (A.n : Int) ≤ 1099511627775 := hb.2.2.2.2.2
  unfold I128
  omega
theorem filter_take {l : List Pt} {k : Nat} {p : Pt} (hp : l[k]? = some p) (q : Pt → Bool) : (((l.take (k + 1)).filter q).map (·.v)).sum = (((l.take k).filter q).map (·.v)).sum + if q p = true then p.v else 0 := by
  rw [List.take_add_one, hp, Option.toList_some, List.filter_append, List.map_append, List.sum_append]
  congr 1
  by_cases h : q p = true
  · rw [if_pos h]; simp [List.filter_cons, h]
  · rw [if_neg h]; simp [List.filter_cons, h]
end Go.Proofs.Ytdjpcinibgbglaa
