/- The archives' plain laws: what a put keeps, how great what is known and rolled may be. -/
import Derived.Test.YtdjpcinibgbglaaFile
set_option linter.unusedVariables false
set_option linter.unusedSimpArgs false
namespace Go.Proofs.Ytdjpcinibgbglaa
theorem Band.put_n (b : Band) (t v : Int) : (b.put t v).n = b.n := by simp [Band.put, Band.n]
theorem Band.put_spc (b : Band) (t v : Int) : (b.put t v).spc = b.spc := by simp [Band.spc, Band.put_n]; rfl
theorem Band.put_place (b : Band) (t v x : Int) : (b.put t v).place x = b.place x := by unfold Band.place; rw [Band.put_n]; rfl
theorem sub_mod {t s : Int} (hs : 1 ≤ s) : (t - t % s) % s = 0 ∧ (t - t % s) / s = t / s := by
  have h1 := Int.mul_ediv_add_emod t s
  have h2 : t - t % s = t / s * s := by rw [Int.mul_comm]; omega
  rw [h2]
  exact ⟨Int.mul_emod_left _ _, Int.mul_ediv_cancel _ (by omega)⟩
theorem Band.put_ok {b : Band} (h : b.ok) {t v : Int} (ht : 0 ≤ t ∧ t ≤ 1099511627775) (hv : (v.natAbs : Int) ≤ 1208925819614629174706176 * b.step) : (b.put t v).ok where
  spc := by rw [Band.put_spc]; exact h.spc
  pts := by
    intro k p hp
    rw [Band.put_place]
    show 0 ≤ p.t ∧ p.t ≤ 1099511627775 ∧ p.t % b.step = 0 ∧ b.place p.t = k ∧ (p.v.natAbs : Int) ≤ 1208925819614629174706176 * b.step
    unfold Band.put at hp
    dsimp only at hp
    have hs := h.b.1
    by_cases hk : b.place t = k
    · subst hk
      have hl : b.place t < b.pl.length := by
        have := (List.getElem?_eq_some_iff.1 hp).1
        simpa using this
      rw [List.getElem?_set_self hl] at hp
      simp only [Option.some.injEq] at hp
      subst hp
      have h1 := emod_le' ht.1 hs
      have h2 := sub_mod (t := t) hs
      refine ⟨by dsimp only; omega, by dsimp only; omega, h2.1, ?_, hv⟩
      unfold Band.place
      dsimp only
      rw [h2.2]
    · rw [List.getElem?_set_ne hk] at hp
      exact h.pts k p hp
theorem Band.known_le {b : Band} (h : b.ok) {t z : Int} (hz : b.known t = some z) : (z.natAbs : Int) ≤ 1208925819614629174706176 * b.step := by
  unfold Band.known at hz
  split at hz
  · cases hz
  · split at hz
    · rename_i p hp
      split at hz
      · injection hz with hz
        subst hz
        exact (h.pts _ p hp).2.2.2.2
      · cases hz
    · cases hz
theorem knowns_le {b : Band} (h : b.ok) (frm : Int) (n : Nat) : (∀ z ∈ knowns b frm n, (z.natAbs : Int) ≤ 1208925819614629174706176 * b.step) ∧ (knowns b frm n).length ≤ n := by
  constructor
  · intro z hz
    unfold knowns at hz
    simp only [List.mem_filterMap] at hz
    obtain ⟨k, _, hk⟩ := hz
    exact Band.known_le h hk
  · have := List.length_filterMap_le (fun (k : Nat) => b.known (frm + (k : Int) * b.step)) (List.range n)
    rw [List.length_range] at this
    exact this
theorem knowns_succ (b : Band) (frm : Int) (n : Nat) : knowns b frm (n + 1) = knowns b frm n ++ (b.known (frm + (n : Int) * b.step)).toList := by
  unfold knowns
  rw [List.range_succ, List.filterMap_append]
  cases h : b.known (frm + (n : Int) * b.step) <;> simp [h]
theorem sum_le {B : Int} : ∀ (l : List Int), (∀ z ∈ l, (z.natAbs : Int) ≤ B) → (l.sum.natAbs : Int) ≤ l.length * B
  | [], _ => by simp
  | x :: l, h => by
    have h1 := sum_le l (fun z hz => h z (by simp [hz]))
    have h2 := h x (by simp)
    have h3 : (((x :: l).length : Nat) : Int) * B = (l.length : Int) * B + B := by rw [List.length_cons, Int.natCast_succ, Int.add_mul, Int.one_mul]
    rw [List.sum_cons, h3]
    omega
theorem foldl_mem {f : Int → Int → Int} (hf : ∀ a b, f a b = a ∨ f a b = b) : ∀ (l : List Int) (a : Int), l.foldl f a = a ∨ l.foldl f a ∈ l
  | [], a => .inl rfl
  | x :: l, a => by
    rw [List.foldl_cons]
    rcases foldl_mem hf l (f a x) with h | h
    · rw [h]
      rcases hf a x with h2 | h2
      · exact .inl h2
      · exact .inr (by simp [h2])
    · exact .inr (by simp [h])
theorem rolled_le {m B S : Int} {zs : List Int} (hne : zs ≠ []) (h : ∀ z ∈ zs, (z.natAbs : Int) ≤ B) (hB : (zs.length : Int) * B ≤ S) : ((rolledM m zs).natAbs : Int) ≤ S := by
  have h1 := sum_le zs h
  obtain ⟨x, l, rfl⟩ : ∃ x l, zs = x :: l := by
    cases zs with
    | nil => exact absurd rfl hne
    | cons x l => exact ⟨x, l, rfl⟩
  have hx := h x (by simp)
  have hBS : B ≤ S := by
    have h3 : (((x :: l).length : Nat) : Int) * B = (l.length : Int) * B + B := by rw [List.length_cons, Int.natCast_succ, Int.add_mul, Int.one_mul]
    have h4 : 0 ≤ (l.length : Int) * B := Int.mul_nonneg (by omega) (by omega)
    omega
  unfold rolledM
  split
  · have := Int.natAbs_tdiv_le_natAbs (x :: l).sum ((x :: l).length : Int)
    omega
  · split
    · omega
    · have hm : ∀ z, z ∈ x :: l → (z.natAbs : Int) ≤ S := fun z hz => Int.le_trans (h z hz) hBS
      split
      · have e : (x :: l).getLastD 0 = (x :: l).getLast (by simp) := by
          rw [List.getLastD_eq_getLast?, List.getLast?_eq_some_getLast (by simp)]
          rfl
        rw [e]
        exact hm _ (List.getLast_mem _)
      · split
        · rcases foldl_mem (f := max) (fun a b => by omega) (x :: l) ((x :: l).headD 0) with e | e
          · rw [e]; exact hm _ (by simp)
          · exact hm _ e
        · rcases foldl_mem (f := min) (fun a b => by omega) (x :: l) ((x :: l).headD 0) with e | e
          · rw [e]; exact hm _ (by simp)
          · exact hm _ e
theorem Fl.ok.put {f : Fl} (h : f.ok) {k : Nat} {b : Band} (hk : f.bands[k]? = some b) {t v : Int} (ht : 0 ≤ t ∧ t ≤ 1099511627775) (hv : (v.natAbs : Int) ≤ 1208925819614629174706176 * b.step) : Fl.ok { f with bands := f.bands.set k (b.put t v) } where
  m := h.m
  x := h.x
  ne := by have := h.ne; intro e; simp at e; exact this e
  le := by simpa using h.le
  bands := by
    intro c hc
    rcases List.mem_or_eq_of_mem_set hc with hc | rfl
    · exact h.bands c hc
    · exact Band.put_ok (h.bands b (List.mem_of_getElem? hk)) ht hv
  pairs := by
    have key : ∀ (j : Nat) (c : Band), (f.bands.set k (b.put t v))[j]? = some c → ∃ c', f.bands[j]? = some c' ∧ c'.spc = c.spc := by
      intro j c hc
      by_cases hj : k = j
      · subst hj
        have hl : k < f.bands.length := (List.getElem?_eq_some_iff.1 hk).1
        rw [List.getElem?_set_self hl] at hc
        injection hc with hc
        subst hc
        exact ⟨b, hk, (Band.put_spc b t v).symm⟩
      · rw [List.getElem?_set_ne hj] at hc
        exact ⟨c, hc, rfl⟩
    intro j a c ha hc
    obtain ⟨a', ha', e1⟩ := key j a ha
    obtain ⟨c', hc', e2⟩ := key (j + 1) c hc
    rw [← e1, ← e2]
    exact h.pairs j a' c' ha' hc'
end Go.Proofs.Ytdjpcinibgbglaa
