/- Plain: a band that is read point by point, as a list of points. -/
import Derived.Test.YtdjpcinibgbglaaTrip
set_option linter.unusedVariables false
set_option linter.unusedSimpArgs false
namespace Go.Proofs.Ytdjpcinibgbglaa
open Go.RowKit Go.Sort
structure QOk (b : Band) (qs : List Pt) : Prop where
  rise : qs.Pairwise (fun a c => a.t < c.t)
  apart : qs.Pairwise (fun a c => b.place a.t ≠ b.place c.t)
  each : ∀ q ∈ qs, 0 ≤ q.t ∧ q.t ≤ 1099511627775 ∧ q.t % b.step = 0 ∧ (q.v.natAbs : Int) ≤ 1208925819614629174706176 * b.step
def lastT (qs : List Pt) : Int := (qs.getLast?.map Pt.t).getD (-1)
theorem newB_ok {s : Spc} (h : okSpc s = true) : (newB s).ok where
  spc := by
    have h1 := okSpc_iff.1 h
    have e : (newB s).spc = s := by
      show (s.1, (((List.replicate s.2.toNat (none : Option Pt)).length : Nat) : Int)) = s
      rw [List.length_replicate]
      exact Prod.ext rfl (by show ((s.2.toNat : Nat) : Int) = s.2; omega)
    rw [e]
    exact h
  pts := by
    intro k p hp
    unfold newB at hp
    simp [List.getElem?_replicate] at hp
theorem putAll_ok : ∀ (qs : List Pt) (b : Band), b.ok → (∀ q ∈ qs, 0 ≤ q.t ∧ q.t ≤ 1099511627775 ∧ (q.v.natAbs : Int) ≤ 1208925819614629174706176 * b.step) → (putAll qs b).ok
  | [], b, h, _ => h
  | q :: qs, b, h, hq => by
    have h1 := hq q (by simp)
    exact putAll_ok qs (b.put q.t q.v) (Band.put_ok h ⟨h1.1, h1.2.1⟩ h1.2.2) (fun x hx => hq x (by simp [hx]))
theorem putAll_snoc (qs : List Pt) (q : Pt) (b : Band) : putAll (qs ++ [q]) b = (putAll qs b).put q.t q.v := by unfold putAll; rw [List.foldl_append]; rfl
theorem free_iff {s : Spc} (hs : okSpc s = true) {qs : List Pt} (h : QOk (newB s) qs) {t : Int} (ht : 0 ≤ t) : (putAll qs (newB s)).pl[(putAll qs (newB s)).place t]? = some none ↔ ∀ q ∈ qs, (newB s).place q.t ≠ (newB s).place t := by
  have hb := (newB_ok hs).b
  have hp := place_nat hb.1 hb.2.2.1 ht
  rw [(putAll_step qs (newB s)).2.2]
  have hn : (newB s).n = (newB s).pl.length := rfl
  constructor
  · intro h0 q hq e
    have h1 := putAll_on qs (newB s) h.apart (fun q hq => ⟨(h.each q hq).2.2.1, (place_nat hb.1 hb.2.2.1 (h.each q hq).1).2⟩) q hq
    rw [e, h0] at h1
    cases h1
  · intro h0
    rw [putAll_off qs (newB s) _ h0]
    have : (newB s).place t < (newB s).pl.length := hp.2
    have key : ∀ k, k < (newB s).pl.length → (newB s).pl[k]? = some none := by
      intro k hk
      unfold newB at hk ⊢
      rw [List.length_replicate] at hk
      rw [List.getElem?_replicate, if_pos hk]
    exact key _ this
theorem pts_putAll {s : Spc} (hs : okSpc s = true) {qs : List Pt} (h : QOk (newB s) qs) : (putAll qs (newB s)).pts = qs := by
  have hb := (newB_ok hs).b
  have hok := putAll_ok qs _ (newB_ok hs) (fun q hq => ⟨(h.each q hq).1, (h.each q hq).2.1, (h.each q hq).2.2.2⟩)
  have h1 := (ptsOk_pts hok).rise
  have hon := putAll_on qs (newB s) h.apart (fun q hq => ⟨(h.each q hq).2.2.1, (place_nat hb.1 hb.2.2.1 (h.each q hq).1).2⟩)
  have hnd : ∀ {l : List Pt}, l.Pairwise (fun a c => a.t < c.t) → l.Nodup := fun h => h.imp (fun h e => by subst e; omega)
  refine List.Perm.eq_of_pairwise (le := fun a c : Pt => a.t < c.t) (fun a b _ _ h1 h2 => by omega) h1 h.rise ?_
  rw [List.perm_ext_iff_of_nodup (hnd h1) (hnd h.rise)]
  intro q
  rw [mem_pts]
  constructor
  · rintro ⟨k, hk⟩
    by_cases hx : ∀ q' ∈ qs, (newB s).place q'.t ≠ k
    · rw [putAll_off qs (newB s) k hx] at hk
      unfold newB at hk
      simp [List.getElem?_replicate] at hk
    · simp only [Classical.not_forall, not_imp, Classical.not_not] at hx
      obtain ⟨q', hq', rfl⟩ := hx
      rw [hon q' hq'] at hk
      injection hk with hk
      injection hk with hk
      subst hk
      exact hq'
  · intro hq
    exact ⟨_, hon q hq⟩
theorem lastT_lt {b : Band} {qs : List Pt} (h : QOk b qs) {t : Int} (ht : 0 ≤ t) : lastT qs < t ↔ ∀ q ∈ qs, q.t < t := by
  unfold lastT
  rcases List.eq_nil_or_concat qs with rfl | ⟨l, x, rfl⟩
  · simp; omega
  · rw [List.concat_eq_append] at h ⊢
    rw [List.getLast?_concat]
    simp only [Option.map_some, Option.getD_some]
    constructor
    · intro hx q hq
      rw [List.mem_append] at hq
      rcases hq with hq | hq
      · have := (List.pairwise_append.1 h.rise).2.2 q hq x (by simp)
        omega
      · simp at hq; subst hq; exact hx
    · intro hx
      exact hx x (by simp)
theorem QOk.snoc {b : Band} {qs : List Pt} (h : QOk b qs) {q : Pt} (hq : 0 ≤ q.t ∧ q.t ≤ 1099511627775 ∧ q.t % b.step = 0 ∧ (q.v.natAbs : Int) ≤ 1208925819614629174706176 * b.step) (h1 : ∀ x ∈ qs, x.t < q.t) (h2 : ∀ x ∈ qs, b.place x.t ≠ b.place q.t) : QOk b (qs ++ [q]) where
  rise := List.pairwise_append.2 ⟨h.rise, by simp, fun x hx y hy => by simp at hy; subst hy; exact h1 x hx⟩
  apart := List.pairwise_append.2 ⟨h.apart, by simp, fun x hx y hy => by simp at hy; subst hy; exact h2 x hx⟩
  each := fun x hx => by
    rw [List.mem_append] at hx
    rcases hx with hx | hx
    · exact h.each x hx
    · simp at hx; subst hx; exact hq
/-- May a point stand behind these? -/
theorem pointP_qs {s : Spc} (hs : okSpc s = true) {qs : List Pt} (h : QOk (newB s) qs) (l : List Int) (p : Nat) (hb : p + 24 ≤ l.length) (ht : sec (rdPnt l p).t = true) (hm : (rdPnt l p).t % s.1 = 0) (hf : fitV (rdPnt l p).v s.1 = true) :
    pointP (putAll qs (newB s)) l p (lastT qs) = if ∀ q ∈ qs, q.t < (rdPnt l p).t ∧ (newB s).place q.t ≠ (newB s).place (rdPnt l p).t then some ⟨(rdPnt l p).t, (rdPnt l p).v⟩ else none := by
  have h0 : 0 ≤ (rdPnt l p).t := by simp [sec] at ht; omega
  have hst : (putAll qs (newB s)).step = s.1 := (putAll_step qs (newB s)).1
  unfold pointP
  rw [hst]
  by_cases hc : ∀ q ∈ qs, q.t < (rdPnt l p).t ∧ (newB s).place q.t ≠ (newB s).place (rdPnt l p).t
  · rw [if_pos hc, if_pos ⟨hb, ht, hm, (lastT_lt h h0).2 (fun q hq => (hc q hq).1), (free_iff hs h h0).2 (fun q hq => (hc q hq).2), hf⟩]
  · rw [if_neg hc, if_neg]
    rintro ⟨_, _, _, h1, h2, _⟩
    exact hc (fun q hq => ⟨(lastT_lt h h0).1 h1 q hq, (free_iff hs h h0).1 h2 q hq⟩)
end Go.Proofs.Ytdjpcinibgbglaa
