/- Plain laws of an update: written twice it is as written once; what was just written is found. -/
import Derived.Test.YtdjpcinibgbglaaFet
import Derived.Test.YtdjpcinibgbglaaSizeP
set_option linter.unusedVariables false
set_option linter.unusedSimpArgs false
namespace Go.Proofs.Ytdjpcinibgbglaa
open Go.RowKit
theorem put_put (b : Band) (t v : Int) : (b.put t v).put t v = b.put t v := by
  have h1 := Band.put_place b t v t
  show ({ (b.put t v) with pl := (b.put t v).pl.set ((b.put t v).place t) (some ⟨t - t % b.step, v⟩) } : Band) = b.put t v
  rw [h1]
  unfold Band.put
  simp
theorem rollB_roll (m x t : Int) : ∀ (cs : List Band) (fine : Band), rollB m x t fine (rollB m x t fine cs) = rollB m x t fine cs
  | [], _ => rfl
  | c :: cs, fine => by
    by_cases h : knowns fine (t - t % c.step) (c.step / fine.step).toNat = [] ∨ ((knowns fine (t - t % c.step) (c.step / fine.step).toNat).length : Int) * 1000000 < x * (c.step / fine.step)
    · have e : rollB m x t fine (c :: cs) = c :: cs := by simp only [rollB]; rw [if_pos h]
      rw [e, e]
    · have e : rollB m x t fine (c :: cs) = c.put (t - t % c.step) (rolledM m (knowns fine (t - t % c.step) (c.step / fine.step).toNat)) :: rollB m x t (c.put (t - t % c.step) (rolledM m (knowns fine (t - t % c.step) (c.step / fine.step).toNat))) cs := by simp only [rollB]; rw [if_neg h]
      rw [e]
      generalize hz : rolledM m (knowns fine (t - t % c.step) (c.step / fine.step).toNat) = z at *
      have hst : (c.put (t - t % c.step) z).step = c.step := rfl
      simp only [rollB]
      rw [hst, if_neg h, hz, put_put, rollB_roll m x t cs]
theorem upd_ok {f : Fl} (h : f.ok) {t v : Int} (ht : sec t = true) (hv : fitV v 1 = true) : f.update t v t = ({ f with bands := upB f.m f.xff t v 0 f.bands }, 0) := by
  obtain ⟨q, b, h1, h2, h3⟩ := file_last h.ne
  have h4 := reach_le (h.bands b (List.mem_of_getElem? h2)).spc
  unfold Fl.update
  rw [if_neg (by simp [ht, hv]), if_neg (by omega), Int.sub_self]
theorem upB_zero {f : Fl} (h : f.ok) (t v : Int) : ∃ b0 rest, f.bands = b0 :: rest ∧ upB f.m f.xff t v 0 f.bands = b0.put t v :: rollB f.m f.xff t (b0.put t v) rest := by
  obtain ⟨b0, rest, hb⟩ : ∃ b0 rest, f.bands = b0 :: rest := by
    cases hb : f.bands with
    | nil => exact absurd hb h.ne
    | cons b l => exact ⟨b, l, rfl⟩
  refine ⟨b0, rest, hb, ?_⟩
  have h4 := reach_le (h.bands b0 (by rw [hb]; simp)).spc
  rw [hb]
  simp only [upB]
  rw [if_pos (by omega)]
theorem upd_twice {f : Fl} (h : f.ok) {t v : Int} (ht : sec t = true) (hv : fitV v 1 = true) (h' : (f.update t v t).1.ok) : (f.update t v t).1.update t v t = ((f.update t v t).1, 0) := by
  rw [upd_ok h' ht hv]
  rw [upd_ok h ht hv]
  dsimp only
  obtain ⟨b0, rest, hb, he⟩ := upB_zero h t v
  rw [he]
  have h4 := reach_le (h.bands b0 (by rw [hb]; simp)).spc
  congr 2
  simp only [upB]
  rw [if_pos (by rw [Band.put_spc]; omega), put_put, rollB_roll]
theorem known_put {b : Band} (h : b.ok) {t v : Int} (ht : 0 ≤ t) : (b.put t v).known (t - t % b.step) = some v := by
  have hb := h.b
  have hm := emod_le' ht hb.1
  have hs := sub_mod (t := t) hb.1
  have hp : b.place (t - t % b.step) = b.place t := by unfold Band.place; rw [hs.2]
  have hl := (place_nat hb.1 hb.2.2.1 ht).2
  unfold Band.known
  rw [if_neg (by omega), Band.put_place, hp]
  have e : (b.put t v).pl[b.place t]? = some (some ⟨t - t % b.step, v⟩) := by
    unfold Band.put
    dsimp only
    rw [List.getElem?_set_self hl]
  rw [e]
  simp
/-- Each reach is above the first one's. -/
theorem chain_reach : ∀ (l : List Band) (a b : Band), ChainP (a :: l) → b ∈ a :: l → reachS a.spc ≤ reachS b.spc
  | [], a, b, _, hb => by simp at hb; subst hb; exact Int.le_refl _
  | c :: l, a, b, hc, hb => by
    rw [List.mem_cons] at hb
    rcases hb with rfl | hb
    · exact Int.le_refl _
    · have h1 := chain_reach l c b hc.2 hb
      have h2 := hc.1
      unfold okPair at h2
      simp only [Bool.and_eq_true, decide_eq_true_eq] at h2
      omega
theorem fetch_new {f : Fl} (h : f.ok) {t v : Int} (ht : sec t = true) (hv : fitV v 1 = true) (h' : (f.update t v t).1.ok) {s : Spc} {rest : List Spc} (hs : f.bands.map Band.spc = s :: rest) (hi : ¬ t - t % s.1 < s.1) (hn : ¬ s.2 < 2) :
    sec (t - t % s.1 - s.1) = true ∧ t - t % s.1 - s.1 ≤ t ∧ t - (f.update t v t).1.last ≤ t - t % s.1 - s.1 ∧
    ∃ b, (f.update t v t).1.bands.find? (fun b => decide (t - max (t - t % s.1 - s.1) (t - (f.update t v t).1.last) ≤ reachS b.spc)) = some b ∧ serB b (max (t - t % s.1 - s.1) (t - (f.update t v t).1.last)) (min (t - t % s.1 - s.1) t) = (t - t % s.1, s.1, [some v]) := by
  have htb : 0 ≤ t ∧ t ≤ 1099511627775 := by simpa [sec] using ht
  obtain ⟨b0, r, hb, he⟩ := upB_zero h t v
  rw [hb] at hs
  simp only [List.map_cons, List.cons.injEq] at hs
  have hsp : b0.step = s.1 ∧ (b0.n : Int) = s.2 := by rw [← hs.1]; exact ⟨rfl, rfl⟩
  have hb0 := h.bands b0 (by rw [hb]; simp)
  have hbb := hb0.b
  have hm := emod_le' htb.1 hbb.1
  rw [hsp.1] at hm
  rw [upd_ok h ht hv] at h' ⊢
  dsimp only at h' ⊢
  obtain ⟨q, bl, g1, g2, g3⟩ := file_last h'.ne
  have hch := chain_of _ h'.pairs
  dsimp only at g1 g2 hch
  rw [he] at g1 g2 hch ⊢
  have hrl := chain_reach _ _ bl hch (List.mem_of_getElem? g2)
  rw [Band.put_spc] at hrl
  have hr0 : reachS b0.spc = s.1 * s.2 := by unfold reachS; rw [hs.1]
  have h2s : 2 * s.1 ≤ s.1 * s.2 := by
    have := Int.mul_le_mul_of_nonneg_left (show 2 ≤ s.2 by omega) (show 0 ≤ s.1 by omega)
    omega
  obtain ⟨R, hR⟩ : ∃ R, R = s.1 * s.2 := ⟨_, rfl⟩
  rw [← hR] at hr0 h2s
  obtain ⟨LS, hLS⟩ : ∃ LS, LS = Fl.last { f with bands := b0.put t v :: rollB f.m f.xff t (b0.put t v) r } := ⟨_, rfl⟩
  have hLS2 : R ≤ LS := by
    have g3' : LS = reachS bl.spc := by rw [hLS]; rw [he] at g3; exact g3
    omega
  rw [← hLS]
  have hmax : max (t - t % s.1 - s.1) (t - LS) = t - t % s.1 - s.1 := by omega
  have hmin : min (t - t % s.1 - s.1) t = t - t % s.1 - s.1 := by omega
  rw [hmax, hmin]
  refine ⟨by simp [sec]; omega, by omega, by omega, b0.put t v, ?_, ?_⟩
  · rw [List.find?_cons, decide_eq_true (by rw [Band.put_spc, hr0]; omega)]
  · have hz : (t - t % s.1 - s.1) % s.1 = 0 := by
      have h1 := (sub_mod (t := t) (s := s.1) (by omega)).1
      rw [Int.sub_emod, h1, Int.emod_self]; simp
    unfold serB
    rw [show (b0.put t v).step = s.1 from hsp.1]
    dsimp only
    rw [hz]
    have e1 : t - t % s.1 - s.1 - 0 + s.1 = t - t % s.1 := by omega
    rw [e1, if_pos rfl, show t - t % s.1 + s.1 - (t - t % s.1) = s.1 by omega, Int.ediv_self (by omega)]
    have hk := known_put (v := v) hb0 htb.1
    rw [hsp.1] at hk
    simp only [show (1 : Int).toNat = 1 from rfl, List.range_one, List.map_cons, List.map_nil, Int.natCast_zero, Int.zero_mul, Int.add_zero]
    rw [← hk]
end Go.Proofs.Ytdjpcinibgbglaa
