/- What a Close says to the law of 'each window once'. -/
import Derived.Test.YthbjpoiolmlpmaaGreatDoorAgLaw5
set_option linter.unusedVariables false
set_option linter.unusedSimpArgs false
namespace Go.Proofs.YthbjpoiolmlpmaaGreatDoor
open Go.RowKit
def cSum (L : List TL) : Int := (L.map TL.c).sum
theorem cSum_append (L M : List TL) : cSum (L ++ M) = cSum L + cSum M := by simp [cSum]
theorem cSum_flat (ws : List (Int × List TL)) : cSum (ws.flatMap (·.2)) = (ws.map fun w => (w.2.map TL.c).sum).sum := by
  induction ws with
  | nil => rfl
  | cons q ws ih =>
    rw [List.flatMap_cons, cSum_append, ih, List.map_cons, List.sum_cons]
    rfl
theorem cSum_nn : ∀ L : List TL, (∀ t ∈ L, 1 ≤ t.c) → 0 ≤ cSum L
  | [], _ => by simp [cSum]
  | t :: L, h => by
    have ih := cSum_nn L (fun x hx => h x (List.mem_cons_of_mem _ hx))
    have ht := h t (by simp)
    have e : cSum (t :: L) = t.c + cSum L := by simp [cSum]
    omega
structure OnceCl (A A' : AgE) (win : Int) (cw : List WCL) : Prop where
  cnt : cSum ((cw.map WCL.pl).flatMap (·.2)) + (A'.E.length : Int) = A.E.length
  ids : (cw.map WCL.id).Pairwise (· < ·)
  lo : ∀ c ∈ cw, A.bd < c.id ∧ c.id ≤ win
  bd : A.bd ≤ A'.bd
  hi : ∀ c ∈ cw, c.id ≤ A'.bd
  ne : ∀ c ∈ cw, 0 < c.us.length
  pos : ∀ c ∈ cw, ∀ u ∈ c.us, 1 ≤ u.2.c
  ord : ∀ c ∈ cw, (c.us.map fun u => u.2.met).Pairwise fun a b => ltM a b = true
  sub : ∀ p ∈ A'.E, p ∈ A.E
  fin : win = mxI → (∀ p ∈ A.E, p.1 ≤ mxI) → A'.E = []
theorem once_cl {M : Nat} {A A' : AgE} {win : Int} {cw : List WCL} (ho : A.ok M) (h : Closes A win (cw.map WCL.pl) A') : OnceCl A A' win cw := by
  have hc := closes_count h ho.up
  rw [← cSum_flat] at hc
  unfold Closes at h
  split at h
  · rename_i hb
    obtain ⟨h1, rfl⟩ := h
    obtain rfl : cw = [] := by simpa using h1
    refine ⟨hc, .nil, by simp, by omega, by simp, by simp, by simp, by simp, fun p hp => hp, fun e hE => ?_⟩
    rw [List.eq_nil_iff_forall_not_mem]
    intro p hp
    have := ho.up p hp
    have := hE p hp
    omega
  · rename_i hb
    obtain ⟨ids, g', h1, h2, rfl⟩ := h
    have hids : cw.map WCL.id = ids := by
      rw [← h2.ids, List.map_map]
      rfl
    have hm : ∀ c ∈ cw, c.id ≤ win ∧ ∃ p ∈ A.E, p.1 = c.id := fun c hc => (h1.mem c.id).1 (hids ▸ List.mem_map_of_mem hc)
    have hT : ∀ c ∈ cw, ∃ g, Told A.E g c.id (c.us.map (·.2)) := fun c hc => h2.told c.pl (List.mem_map_of_mem hc)
    refine ⟨hc, hids ▸ h1.rise, fun c hc => ?_, by simp only; omega, fun c hc => (hm c hc).1, fun c hc => ?_, fun c hc u hu => ?_, fun c hc => ?_, fun p hp => (List.mem_filter.1 hp).1, fun e hE => ?_⟩
    · obtain ⟨k1, p, hp, e⟩ := hm c hc
      exact ⟨e ▸ ho.up p hp, k1⟩
    · obtain ⟨g, k⟩ := hT c hc
      have := told_some k (hm c hc).2
      simpa using this
    · obtain ⟨g, k⟩ := hT c hc
      exact told_c_pos k (List.mem_map_of_mem hu)
    · obtain ⟨g, k⟩ := hT c hc
      have := k.rise
      rwa [List.map_map] at this
    · show A.E.filter _ = []
      rw [List.filter_eq_nil_iff]
      intro p hp
      have := hE p hp
      simp
      omega
/-- The list of what was told: rising, nothing above the bound. -/
theorem last_ok {A A' : AgE} {win : Int} {cw : List WCL} (h : OnceCl A A' win cw) {last : List Int} (hl : ∀ x ∈ last, x ≤ A.bd) (q : Nat) {c : WCL} (hc : cw[q]? = some c) : ∀ x ∈ last ++ (cw.take q).map WCL.id, x < c.id := by
  intro x hx
  rcases List.mem_append.1 hx with hx | hx
  · have := (h.lo c (List.mem_of_getElem? hc)).1
    have := hl x hx
    omega
  · obtain ⟨d, hd, rfl⟩ := List.mem_map.1 hx
    obtain ⟨j, hj⟩ := List.mem_iff_getElem?.1 hd
    have hjq : j < q := by
      have := (List.getElem?_eq_some_iff.1 hj).1
      rw [List.length_take] at this
      omega
    rw [List.getElem?_take_of_lt hjq] at hj
    have hp := h.ids
    rw [List.pairwise_map] at hp
    obtain ⟨l1, rfl⟩ := List.getElem?_eq_some_iff.1 hj
    obtain ⟨l2, rfl⟩ := List.getElem?_eq_some_iff.1 hc
    exact List.pairwise_iff_getElem.1 hp j q l1 l2 hjq
/-- An operation of the law's. -/
abbrev OpR : Type := Int × Int × Ev
def opC (p : OpR) : List Value := .int .i64 p.1 :: .int .i64 p.2.1 :: evC p.2.2
theorem opC_len (p : OpR) : (opC p).length = 10 := rfl
structure okOps (l : List OpR) : Prop where
  len : l.length ≤ 1048575
  sz : ∀ p ∈ l, p.2.2.name.size ≤ 1048576 ∧ p.2.2.member.size ≤ 1048576
  win : ∀ p ∈ l, I64 p.2.1
abbrev gOp : GT := .struct (.cons gI (.cons gI (.cons gEvent .nil)))
def opOf (y : GT.den gOp) : OpR := (y.1, y.2.1, evOf y.2.2.1)
theorem rd_op {w : World} {F : Nat → Prop} {cs : List Value} {y : GT.den gOp} (h : Rd w F gOp cs y) : cs = opC (opOf y) ∧ I64 (opOf y).2.1 := by
  obtain ⟨k, i, ev, u⟩ := y
  obtain ⟨c1, c2, rfl, ⟨rfl, _⟩, c3, c4, rfl, ⟨rfl, hi⟩, c5, c6, rfl, h3, rfl⟩ := h
  obtain ⟨e, rfl, rfl, _⟩ := rd_evR h3
  exact ⟨by simp [opC, opOf, evOf], of_wf_i hi⟩
theorem bulk_op (xs : List (GT.den gOp)) : xs.length + 1 ≤ GT.bulk (.slice gOp) xs ∧ ∀ y ∈ xs, (opOf y).2.2.name.size ≤ GT.bulk (.slice gOp) xs ∧ (opOf y).2.2.member.size ≤ GT.bulk (.slice gOp) xs := by
  induction xs with
  | nil => simp [GT.bulk]
  | cons y xs ih =>
    obtain ⟨h1, h2⟩ := ih
    have e : GT.bulk (.slice gOp) (y :: xs) = GT.bulk gOp y + GT.bulk (.slice gOp) xs := by simp [GT.bulk]; omega
    have hy : (opOf y).2.2.name.size + (opOf y).2.2.member.size + 1 ≤ GT.bulk gOp y := by
      obtain ⟨k, i, ⟨n, kk, v, d, m, r⟩, u⟩ := y
      simp only [opOf, evOf, GT.bulk]
      omega
    rw [e]
    refine ⟨by simp only [List.length_cons]; omega, fun z hz => ?_⟩
    rcases List.mem_cons.1 hz with rfl | hz
    · omega
    · have := h2 z hz
      omega
theorem rd_ops {w : World} {F : Nat → Prop} {cs : List Value} {xs : GT.den (.slice gOp)} (h : Rd w F (.slice gOp) cs xs) (hb : GT.bulk (.slice gOp) xs ≤ 1048576) :
    ∃ v ops, cs = [v] ∧ RowK w F opC 10 v ops ∧ okOps ops := by
  have hbk := bulk_op xs
  have hm : ∀ y ∈ xs, I64 (opOf y).2.1 := by
    obtain ⟨A, c, _, _, _, _, h5⟩ := h
    intro y hy
    obtain ⟨i, hi⟩ := List.mem_iff_getElem?.1 hy
    obtain ⟨_, _, _, _, _, _, _, hr⟩ := h5 i y hi
    exact (rd_op hr).2
  obtain ⟨A, c, rfl, h2, h3, h4, h5⟩ := h
  refine ⟨_, xs.map opOf, rfl, ⟨A, c, by rw [List.length_map], by rw [List.length_map]; exact h2, h3, h4, fun i p hp => ?_⟩, ⟨by rw [List.length_map]; omega, fun p hp => ?_, fun p hp => ?_⟩⟩
  · rw [List.getElem?_map] at hp
    cases hx : xs[i]? with
    | none => rw [hx] at hp; cases hp
    | some y =>
      rw [hx] at hp
      obtain rfl := Option.some.inj hp
      obtain ⟨b, o, ecs, hA, hF, _, hc, hr⟩ := h5 i y hx
      obtain ⟨rfl, _⟩ := rd_op hr
      exact ⟨b, o, hA, hF, hc⟩
  · obtain ⟨y, hy, rfl⟩ := List.mem_map.1 hp
    have := hbk.2 y hy
    omega
  · obtain ⟨y, hy, rfl⟩ := List.mem_map.1 hp
    exact hm y hy
end Go.Proofs.YthbjpoiolmlpmaaGreatDoor
