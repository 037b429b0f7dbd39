/- What an archive's points are, told: no more than its places, each in order, rising, no two at one place; an update keeps the archives' forms. -/
import Derived.Test.YtdjpcinibgbglaaUpdX
import Derived.Test.YtdjpcinibgbglaaCreNo
import Derived.Test.YtdjpcinibgbglaaMade
set_option linter.unusedVariables false
set_option linter.unusedSimpArgs false
namespace Go.Proofs.Ytdjpcinibgbglaa
open Go.RowKit
structure PtsOk (b : Band) (l : List Pt) : Prop where
  len : l.length ≤ b.n
  each : ∀ p ∈ l, 0 ≤ p.t ∧ p.t ≤ 1099511627775 ∧ p.t % b.step = 0 ∧ (p.v.natAbs : Int) ≤ 1208925819614629174706176 * b.step
  rise : l.Pairwise (fun a c => a.t < c.t)
  apart : l.Pairwise (fun a c => b.place a.t ≠ b.place c.t)
theorem ptsOk {b : Band} (h : b.ok) {l : List Pt} (hp : l.Perm (b.pl.filterMap id)) (hs : l.Pairwise (fun a c => a.t ≤ c.t)) : PtsOk b l := by
  have hm : ∀ p ∈ l, ∃ k : Nat, b.pl[k]? = some (some p) := by
    intro p hpm
    have := hp.mem_iff.1 hpm
    simp only [List.mem_filterMap, id, exists_eq_right] at this
    obtain ⟨k, hk, e⟩ := List.mem_iff_getElem.1 this
    exact ⟨k, by rw [List.getElem?_eq_getElem hk, e]⟩
  have h0 : (b.pl.filterMap id).Pairwise (fun a c => b.place a.t ≠ b.place c.t) := by
    rw [List.pairwise_filterMap, List.pairwise_iff_getElem]
    intro i j hi hj hij p hp q hq
    have e1 := (h.pts i p (by rw [List.getElem?_eq_getElem hi]; exact congrArg some hp)).2.2.2.1
    have e2 := (h.pts j q (by rw [List.getElem?_eq_getElem hj]; exact congrArg some hq)).2.2.2.1
    omega
  have h1 : l.Pairwise (fun a c => b.place a.t ≠ b.place c.t) := (hp.pairwise_iff (fun h => fun e => h e.symm)).2 h0
  refine ⟨?_, fun p hpm => ?_, ?_, h1⟩
  · rw [hp.length_eq]
    exact List.length_filterMap_le _ _
  · obtain ⟨k, hk⟩ := hm p hpm
    have := h.pts k p hk
    exact ⟨this.1, this.2.1, this.2.2.1, this.2.2.2.2⟩
  · refine (hs.and h1).imp ?_
    rintro a c ⟨h2, h3⟩
    have : a.t ≠ c.t := fun e => h3 (by rw [e])
    omega
theorem rollB_spc (m x t : Int) : ∀ (cs : List Band) (fine : Band), (rollB m x t fine cs).map Band.spc = cs.map Band.spc
  | [], _ => rfl
  | c :: cs, fine => by
    simp only [rollB]
    split
    · rfl
    · rw [List.map_cons, List.map_cons, Band.put_spc, rollB_spc m x t cs]
theorem upB_spc (m x t v d : Int) : ∀ (l : List Band), (upB m x t v d l).map Band.spc = l.map Band.spc
  | [] => rfl
  | b :: l => by
    simp only [upB]
    split
    · rw [List.map_cons, List.map_cons, Band.put_spc, rollB_spc]
    · rw [List.map_cons, List.map_cons, upB_spc m x t v d l]
theorem update_spc (f : Fl) (t v now : Int) : (f.update t v now).1.bands.map Band.spc = f.bands.map Band.spc := by
  unfold Fl.update
  split
  · rfl
  · split
    · rfl
    · exact upB_spc _ _ _ _ _ _
theorem ups_spc : ∀ (ops : List Opn) (f : Fl), (ups f ops).bands.map Band.spc = f.bands.map Band.spc
  | [], f => rfl
  | o :: ops, f => by
    show (ups (f.update o.t o.v o.now).1 ops).bands.map Band.spc = _
    rw [ups_spc ops, update_spc]
theorem newF_spc {l : List Spc} {m x : Int} (hc : (check l).2 = 0) : (newF l m x).bands.map Band.spc = l := by
  unfold newF
  dsimp only
  rw [List.map_map]
  apply List.ext_getElem?
  intro i
  rw [List.getElem?_map]
  cases hi : l[i]? with
  | none => rfl
  | some s => simp [newB_spc (chk_at hc hi).2]
theorem update_mx (f : Fl) (t v now : Int) : (f.update t v now).1.m = f.m ∧ (f.update t v now).1.xff = f.xff := by
  unfold Fl.update
  split
  · exact ⟨rfl, rfl⟩
  · split <;> exact ⟨rfl, rfl⟩
theorem ups_mx : ∀ (ops : List Opn) (f : Fl), (ups f ops).m = f.m ∧ (ups f ops).xff = f.xff
  | [], f => ⟨rfl, rfl⟩
  | o :: ops, f => by
    have h := ups_mx ops (f.update o.t o.v o.now).1
    have h2 := update_mx f o.t o.v o.now
    exact ⟨h.1.trans h2.1, h.2.trans h2.2⟩
end Go.Proofs.Ytdjpcinibgbglaa
