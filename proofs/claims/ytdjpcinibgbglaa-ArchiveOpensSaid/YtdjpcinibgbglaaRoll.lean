/- The methods' functions as an update asks of them (sum, last); an update keeps a file in order. -/
import Derived.Test.YtdjpcinibgbglaaUpd
set_option linter.unusedVariables false
set_option linter.unusedSimpArgs false
namespace Go.Proofs.Ytdjpcinibgbglaa
open Go.RowKit Go.Sort
theorem roll_sum : RollOk 2 := fun F v zs W hr hne hn hz hs => asum_calls F v zs W hr hz hn hs
/-- Each archive fits the one ahead of it. -/
def ChainP : List Band → Prop
  | a :: b :: l => okPair a.spc b.spc = true ∧ ChainP (b :: l)
  | _ => True
theorem chain_of : ∀ (l : List Band), (∀ (k : Nat) (a b : Band), l[k]? = some a → l[k + 1]? = some b → okPair a.spc b.spc = true) → ChainP l
  | [], _ => trivial
  | [_], _ => trivial
  | a :: b :: l, h => ⟨h 0 a b rfl rfl, chain_of (b :: l) (fun k x y hx hy => h (k + 1) x y (by simpa using hx) (by simpa using hy))⟩
theorem chain_spc : ∀ (l l' : List Band), l.map Band.spc = l'.map Band.spc → ChainP l → ChainP l'
  | [], [], _, _ => trivial
  | [_], [_], _, _ => trivial
  | a :: b :: l, a' :: b' :: l', h, hc => by
    simp only [List.map_cons, List.cons.injEq] at h
    exact ⟨by rw [← h.1, ← h.2.1]; exact hc.1, chain_spc (b :: l) (b' :: l') (by simp [h.2.1, h.2.2]) hc.2⟩
  | [], _ :: _, h, _ => by simp at h
  | _ :: _, [], h, _ => by simp at h
  | [_], _ :: _ :: _, h, _ => by simp at h
  | _ :: _ :: _, [_], h, _ => by simp at h
theorem roll_room {m x t : Int} {fine c : Band} (hf : fine.ok) (hc : c.ok) (hp : okPair fine.spc c.spc = true) {ks : List Int} (hks : ks = knowns fine (t - t % c.step) (c.step / fine.step).toNat) (hne : ks ≠ []) : ((rolledM m ks).natAbs : Int) ≤ 1208925819614629174706176 * c.step := by
  have h1 := knowns_le hf (t - t % c.step) (c.step / fine.step).toNat
  rw [← hks] at h1
  have hfs := hf.b.1
  have hcs := hc.b.1
  have h2 := (ediv_le' (t := c.step) (s := fine.step) (by omega) hfs).1
  have h3 := Int.mul_ediv_add_emod c.step fine.step
  have h4 := Int.emod_nonneg c.step (show fine.step ≠ 0 by omega)
  refine rolled_le hne h1.1 (roll_bd (N := c.step / fine.step) ?_ hfs (by omega))
  have h5 := h1.2
  omega
theorem rollB_ok {m x t : Int} (ht : 0 ≤ t ∧ t ≤ 1099511627775) : ∀ (cs : List Band) (fine : Band), fine.ok → (∀ c ∈ cs, c.ok) → ChainP (fine :: cs) → (∀ b ∈ rollB m x t fine cs, b.ok) ∧ (rollB m x t fine cs).map Band.spc = cs.map Band.spc
  | [], fine, _, _, _ => by simp [rollB]
  | c :: cs, fine, hf, hcs, hch => by
    have hc := hcs c (by simp)
    have hcs' : ∀ b ∈ cs, b.ok := fun b hb => hcs b (by simp [hb])
    by_cases h : knowns fine (t - t % c.step) (c.step / fine.step).toNat = [] ∨ ((knowns fine (t - t % c.step) (c.step / fine.step).toNat).length : Int) * 1000000 < x * (c.step / fine.step)
    · rw [rollB_stop h]
      exact ⟨hcs, rfl⟩
    · rw [rollB_go h]
      have hne : knowns fine (t - t % c.step) (c.step / fine.step).toNat ≠ [] := fun e => h (.inl e)
      have hR := roll_room (m := m) (x := x) hf hc hch.1 rfl hne
      have hm := emod_le' ht.1 hc.b.1
      generalize hRe : rolledM m (knowns fine (t - t % c.step) (c.step / fine.step).toNat) = R at *
      have hc' : (c.put (t - t % c.step) R).ok := Band.put_ok hc ⟨by omega, by omega⟩ hR
      have ih := rollB_ok (m := m) (x := x) ht cs (c.put (t - t % c.step) R) hc' hcs' (chain_spc (c :: cs) _ (by simp [Band.put_spc]) hch.2)
      refine ⟨fun b hb => ?_, by rw [List.map_cons, ih.2, Band.put_spc]; rfl⟩
      rcases List.mem_cons.1 hb with rfl | hb
      · exact hc'
      · exact ih.1 b hb
theorem upB_ok {m x t v d : Int} (ht : 0 ≤ t ∧ t ≤ 1099511627775) (hv : (v.natAbs : Int) ≤ 1208925819614629174706176) : ∀ (l : List Band), (∀ c ∈ l, c.ok) → ChainP l → (∀ b ∈ upB m x t v d l, b.ok) ∧ (upB m x t v d l).map Band.spc = l.map Band.spc
  | [], _, _ => by simp [upB]
  | c :: l, hcs, hch => by
    have hc := hcs c (by simp)
    have hcs' : ∀ b ∈ l, b.ok := fun b hb => hcs b (by simp [hb])
    have hch' : ChainP l := by
      cases l with
      | nil => trivial
      | cons b l => exact hch.2
    unfold upB
    split
    · have hc' : (c.put t v).ok := Band.put_ok hc ht (by have := hc.b.1; omega)
      have ih := rollB_ok (m := m) (x := x) ht l (c.put t v) hc' hcs' (chain_spc (c :: l) _ (by simp [Band.put_spc]) hch)
      refine ⟨fun b hb => ?_, by rw [List.map_cons, ih.2, Band.put_spc]; rfl⟩
      rcases List.mem_cons.1 hb with rfl | hb
      · exact hc'
      · exact ih.1 b hb
    · have ih := upB_ok (m := m) (x := x) (d := d) ht hv l hcs' hch'
      refine ⟨fun b hb => ?_, by rw [List.map_cons, ih.2]; rfl⟩
      rcases List.mem_cons.1 hb with rfl | hb
      · exact hc
      · exact ih.1 b hb
/-- An update that is taken leaves a file in order. -/
theorem Fl.ok.upB {f : Fl} (h : f.ok) {t v d : Int} (ht : 0 ≤ t ∧ t ≤ 1099511627775) (hv : (v.natAbs : Int) ≤ 1208925819614629174706176) : Fl.ok { f with bands := upB f.m f.xff t v d f.bands } := by
  have hk := upB_ok (m := f.m) (x := f.xff) (d := d) ht hv f.bands h.bands (chain_of _ h.pairs)
  have hlen : (Go.Proofs.Ytdjpcinibgbglaa.upB f.m f.xff t v d f.bands).length = f.bands.length := by
    have := congrArg List.length hk.2
    simpa using this
  refine ⟨h.m, h.x, fun e => ?_, by show (Go.Proofs.Ytdjpcinibgbglaa.upB f.m f.xff t v d f.bands).length ≤ 8; rw [hlen]; exact h.le, hk.1, ?_⟩
  · have h1 : (Go.Proofs.Ytdjpcinibgbglaa.upB f.m f.xff t v d f.bands).length = 0 := by simpa using congrArg List.length e
    have h2 := List.length_pos_iff.2 h.ne
    omega
  · intro k a b ha hb
    have key : ∀ (j : Nat) (c : Band), (Go.Proofs.Ytdjpcinibgbglaa.upB f.m f.xff t v d f.bands)[j]? = some c → ∃ c', f.bands[j]? = some c' ∧ c'.spc = c.spc := by
      intro j c hc
      have h3 := congrArg (fun l => l[j]?) hk.2
      simp only [List.getElem?_map, hc, Option.map_some] at h3
      cases hb2 : f.bands[j]? with
      | none => rw [hb2] at h3; simp at h3
      | some c' => rw [hb2] at h3; simp at h3; exact ⟨c', rfl, h3.symm⟩
    obtain ⟨a', ha', e1⟩ := key k a ha
    obtain ⟨b', hb', e2⟩ := key (k + 1) b hb
    rw [← e1, ← e2]
    exact h.pairs k a' b' ha' hb'
end Go.Proofs.Ytdjpcinibgbglaa
