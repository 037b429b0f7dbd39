/- slices.SortFunc's words ('HoldsK', 'sortWorldK') and ours ('ownsRow', 'Upd'): a row of the call's own, elements of k cells. -/
import Derived.Test.YthbjpoiolmlpmaaGreatDoorKern
import Derived.Shelf.SlSortCmp.NoneTotal
set_option linter.unusedVariables false
set_option linter.unusedSimpArgs false
namespace Go.Proofs.YthbjpoiolmlpmaaGreatDoor
open Go.RowKit Go.Sort Go.Proofs Go.Shelf Go.Lib

theorem flat_get {α : Type} [Inhabited α] (enc : α → List Value) (k : Nat) (hk : ∀ x, (enc x).length = k) (h0 : 0 < k) : ∀ (l : List α) (t : Nat), t < l.length * k → (l.flatMap enc)[t]? = some ((enc l.toArray[t / k]!)[t % k]!)
  | [], t, h => by simp at h
  | x :: l, t, h => by
    rw [List.flatMap_cons]
    rcases Nat.lt_or_ge t k with hlt | hge
    · rw [List.getElem?_append_left (by rw [hk]; exact hlt), Nat.div_eq_of_lt hlt, Nat.mod_eq_of_lt hlt]
      have : t < (enc x).length := by rw [hk]; exact hlt
      simp [List.getElem?_eq_getElem this, List.getElem!_eq_getElem?_getD]
    · have hl : t - k < l.length * k := by simp [Nat.succ_mul] at h; omega
      rw [List.getElem?_append_right (by rw [hk]; exact hge), hk, flat_get enc k hk h0 l (t - k) hl]
      have e1 : t / k = (t - k) / k + 1 := by rw [← Nat.sub_add_cancel hge, Nat.add_div_right _ h0, Nat.add_sub_cancel]
      have e2 : t % k = (t - k) % k := by rw [Nat.mod_eq_sub_mod hge]
      rw [e1, e2]
      have e3 : (x :: l).toArray[(t - k) / k + 1]! = l.toArray[(t - k) / k]! := by
        have : (t - k) / k < l.length := by rw [Nat.div_lt_iff_lt_mul h0]; exact hl
        rw [getElem!_pos _ _ (by simpa using this), getElem!_pos _ _ (by simp; omega)]
        simp
      rw [e3]

theorem own_holdsK {α : Type} [Inhabited α] {enc : α → List Value} {k : Nat} (hk : ∀ x, (enc x).length = k) (h0 : 0 < k) {w : World} {base g n cap : Nat} {e : TypeId} {l : List α} (h : w.ownsRow base e k (.slice (some ⟨g, 0, none⟩) n cap) n (l.flatMap enc)) :
    l.length = n ∧ HoldsK enc k w g 0 l.toArray := by
  have h1 := h.1
  rw [flat_length enc k hk] at h1
  have hl : l.length = n := Nat.eq_of_mul_eq_mul_right h0 h1
  refine ⟨hl, fun j hj => ?_⟩
  simp only [size_flatK] at hj
  have hj' : j < l.length * k := by simpa using hj
  rw [get_flatK enc k l.toArray j (by simpa using hj')]
  have hc := h.cells (g := g) rfl j _ (flat_get enc k hk h0 l j hj')
  rw [show (⟨g, 0, none⟩ : Addr).add j = ⟨g, j, none⟩ by rw [Addr.add_lit, Nat.zero_add]] at hc
  rw [Nat.zero_add]
  refine ⟨hc, ?_⟩
  rcases h.2 with ⟨hv, _⟩ | ⟨g', cap', cur, hv, _, hg, _⟩
  · cases hv
  · injection hv with hv
    injection hv with hv
    injection hv with hv
    subst hv
    simp [World.frozen?, hg]

theorem sortWorld_upd {α : Type} [Inhabited α] (enc : α → List Value) (k : Nat) (w : World) (g m : Nat) (d : Array α) (os : Array Obj) : Upd [g] w (sortWorldK enc k w g 0 m d os) := by
  refine ⟨rfl, rfl, rfl, ?_, fun i hi hn => ?_⟩
  · simp [sortWorldK, putRowK, putRow, mapBlock, Sort.ahead]
  · have hne : g ≠ i := fun e => hn (by simp [e])
    unfold sortWorldK
    rw [heap_grow_old _ _ (by simpa [putRowK, putRow, mapBlock, Sort.ahead] using hi)]
    simp [putRowK, putRow, mapBlock, Sort.ahead, Array.getElem?_modify, hne]

theorem sortWorld_own {α : Type} [Inhabited α] {enc : α → List Value} {k : Nat} (hk : ∀ x, (enc x).length = k) (h0 : 0 < k) {w : World} {base g n cap : Nat} {e : TypeId} {l : List α} (h : w.ownsRow base e k (.slice (some ⟨g, 0, none⟩) n cap) n (l.flatMap enc))
    (m : Nat) (d : Array α) (hd : d.size = l.length) (os : Array Obj) : (sortWorldK enc k w g 0 m d os).ownsRow base e k (.slice (some ⟨g, 0, none⟩) n cap) n (d.toList.flatMap enc) := by
  obtain ⟨hl, hH⟩ := own_holdsK hk h0 h
  have hlt : g < w.heap.size := own_lt h g rfl
  have hH' : HoldsK enc k (sortWorldK enc k w g 0 m d os) g 0 d := by
    unfold sortWorldK
    exact holdsK_grow _ _ _ _ _ _ _ (by simpa [putRowK, putRow, mapBlock, Sort.ahead] using hlt) (holdsK_putRowK _ _ _ _ _ l.toArray d (holdsK_ahead _ _ _ m g 0 l.toArray hH) (by simpa using hd))
  refine ⟨by rw [flat_length enc k hk]; simp [hd, hl], ?_⟩
  rcases h.2 with ⟨hv, _⟩ | ⟨g', cap', cur, hv, hb, hg, h1, h2, h3, h4⟩
  · cases hv
  · injection hv with hv hv2 hv3
    injection hv with hv
    injection hv with hv
    subst hv
    subst hv3
    have hblk : (sortWorldK enc k w g 0 m d os).heap[g]? = some (.cells (putCells id 0 (flatK enc k d) cur) e (0, 0)) := by
      unfold sortWorldK
      rw [heap_grow_old _ _ (by simpa [putRowK, putRow, mapBlock, Sort.ahead] using hlt)]
      simp only [putRowK, putRow, mapBlock, Sort.ahead, Array.getElem?_modify, if_true]
      rw [hg]
      rfl
    have hsz : (putCells id 0 (flatK enc k d) cur).size = cur.size := by simp [putCells]
    refine .inr ⟨g, cap, _, rfl, hb, hblk, h1, h2, by rw [hsz, h3], ?_⟩
    apply List.ext_getElem?
    intro j
    rw [List.getElem?_take]
    split
    · rename_i hj
      have hj2 : j < d.toList.length * k := by simp [hd, hl]; exact hj
      have hc := (hH' j (by simp [hd, hl]; exact hj)).1
      rw [Nat.zero_add, get_flatK enc k d j (by simpa using hj2)] at hc
      simp only [World.cell?, hblk] at hc
      have e2 := flat_get enc k hk h0 d.toList j hj2
      rw [e2]
      simpa using hc
    · rename_i hj
      rw [List.getElem?_eq_none]
      rw [flat_length enc k hk]
      simp [hd, hl]
      omega

/-- slices.SortFunc on a row of the call's own. -/
theorem sort_own {α : Type} [Inhabited α] {P : Program} {ρ : Ren} (L : SlLaysF0.n6 P ρ) (k : Nat) (h0 : 0 < k) (aE : ∀ w, (isAgg (ρ.t 24)).run P w = .ok true w) (zE : ∀ w, (Go.sizeOf (ρ.t 24)).run P w = .ok k w)
    (enc : α → List Value) (hk : ∀ x, (enc x).length = k) (h1 : ∀ x, ∀ v ∈ enc x, v.oneCell' = true) (cf : α → α → Int) (hO : SWO (ltOf cf)) (g : Nat) (eg : ∀ args w, (callFunc g args).run P w = .ok (.enter g args) w)
    (hcmp : ∀ (x y : α) (W : World), Calls P g #[.agg (enc x).toArray, .agg (enc y).toArray] W fun e w' => e = .returned (.int .i64 (cf x y)) ∧ Gr W w')
    {w : World} {base n : Nat} {e : TypeId} {v : Value} {l : List α} (h : w.ownsRow base e k v n (l.flatMap enc)) (hn : n ≤ 4611686018427387903) :
    Calls P (ρ.f 6) #[v, .func (.func g) #[] #[]] w fun e' w' => e' = .returned (.tuple #[]) ∧ ∃ l' : List α, l'.Perm l ∧ l'.Pairwise (fun a b => ltOf cf b a = false) ∧ w'.ownsRow base e k v n (l'.flatMap enc) ∧ Upd v.ownBlock.toList w w' := by
  have hl : l.length = n := by
    have := h.1
    rw [flat_length enc k hk] at this
    exact Nat.eq_of_mul_eq_mul_right h0 this
  rcases h.2 with ⟨rfl, rfl⟩ | ⟨b, cap, cur, rfl, _⟩
  · obtain rfl : l = [] := List.eq_nil_of_length_eq_zero hl
    refine (AnyF.slices_SortFunc_none L none 0 _ w).mono ?_
    rintro e' w' ⟨rfl, rfl⟩
    exact ⟨rfl, [], .refl _, .nil, h, Upd.refl _ _⟩
  · obtain ⟨_, hH⟩ := own_holdsK hk h0 h
    have hlt : b < w.heap.size := own_lt h b rfl
    have hc := AnyQ.slices_SortFunc L k aE zE enc hk h1 cf hO g #[] b 0 cap l.toArray w eg (fun m os dk hd x y => by
      refine (hcmp x y _).mono ?_
      rintro e' w' ⟨rfl, hg⟩
      exact ⟨rfl, hg⟩) hH hlt (by simp; omega)
    rw [show l.toArray.size = n by simpa using hl] at hc
    refine hc.mono ?_
    rintro e' w' ⟨rfl, d', m, os, hp, hs, rfl⟩
    have hd : d'.size = l.length := by simpa using hp.1
    refine ⟨rfl, d'.toList, ?_, ?_, sortWorld_own hk h0 h m d' hd os, sortWorld_upd enc k w b m d' os⟩
    · have := hp.2.2
      rw [← hl] at this
      have e1 : (d'.extract 0 l.length) = d' := by rw [← hd, Array.extract_size]
      have e2 : (l.toArray.extract 0 l.length) = l.toArray := by
        simp
      rw [e1, e2] at this
      simpa using this
    · rw [List.pairwise_iff_getElem]
      intro i j hi hj hij
      have hj' : j < d'.size := by simpa using hj
      have hi' : i < d'.size := by simpa using hi
      have := hs i j (Nat.zero_le _) hij (by omega)
      rw [getElem!_pos d' j hj', getElem!_pos d' i hi'] at this
      simpa using this
end Go.Proofs.YthbjpoiolmlpmaaGreatDoor
