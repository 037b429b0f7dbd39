/- archive.Create, where it refuses. -/
import Derived.Test.YtdjpcinibgbglaaCreate
set_option linter.unusedVariables false
set_option linter.unusedSimpArgs false
namespace Go.Proofs.Ytdjpcinibgbglaa
open Go.RowKit Go.Sort
/-- What Create answers. -/
def creErr (l : List Spc) (m x : Int) : Int := if (check l).2 ≠ 0 then (check l).2 else if m < 1 ∨ 5 < m then 191 else if x < 0 ∨ 1000000 < x then 192 else 0
theorem nil_nil (W : World) : (binOp .eql 75 .nilFunc .nilFunc).run Try.prog W = .ok (.bool true) W := by kernel_rfl
set_option maxRecDepth 10000 in
set_option maxHeartbeats 1000000 in
theorem create_no (F : Nat → Prop) (v : Value) (l : List Spc) (m x : Int) (w : World) (hr : RowK w F spcC 2 v l) (hs : ∀ s ∈ l, I64S s) (h : creErr l m x ≠ 0) :
    Calls Try.prog 19 #[v, .int .i64 m, .int .i64 x] w fun e w' => e = .returned (.tuple #[.pointer none, .int .i64 (creErr l m x)]) ∧ Upd [] w w' := by
  have HC := Lib.hid (check_calls F v l w hr hs)
  obtain ⟨r, hre⟩ : ∃ r, r = creErr l m x := ⟨_, rfl⟩
  rw [← hre] at h ⊢
  obtain ⟨at0, hat⟩ : ∃ a, a = (check l).1 := ⟨_, rfl⟩
  obtain ⟨ce, hce⟩ : ∃ a, a = (check l).2 := ⟨_, rfl⟩
  unfold creErr at hre
  rw [← hce] at hre HC
  rw [← hat] at HC
  clear hr hs hat hce
  by_cases h1 : ce = 0
  · rw [if_neg (by omega)] at hre
    subst h1
    by_cases h2 : m < 1 ∨ 5 < m
    · rw [if_pos h2] at hre
      subst hre
      have HRO := Lib.hid (fun W => rolled_none m W h2)
      have hfn := nil_nil
      clear h h2
      go_enter Try.func19, Try.ntmps19
      go_wp2_with fail
      refine HC.out.mono ?_
      rintro e w1 ⟨rfl, hU1⟩
      go_wp2_with fail
      refine (HRO.out _).mono ?_
      rintro e w2 ⟨rfl, rfl⟩
      have hB := HB.new w2 77 [.int .i64 m, .int .i64 x, .slice none 0 0, .nilFunc]
      have y0 := hB.cell (j := 3) rfl
      go_wp2
      go_ret2
      exact ⟨rfl, hU1.alloc _⟩
    · rw [if_neg h2] at hre
      have h3 : x < 0 ∨ 1000000 < x := Decidable.byContradiction fun h3 => by rw [if_neg h3] at hre; exact h hre
      rw [if_pos h3] at hre
      subst hre
      have HRO := Lib.hid (fun W => rolled_calls m W (by omega))
      obtain ⟨g, hg⟩ : ∃ g, g = rollF m := ⟨_, rfl⟩
      unfold rollV at HRO
      rw [← hg] at HRO
      have hfn := fn_nil g
      clear h h2 hg
      by_cases h4 : x < 0
      · have d1 : decide (x < 0) = true := decide_eq_true h4
        go_enter Try.func19, Try.ntmps19
        go_wp2_with fail
        refine HC.out.mono ?_
        rintro e w1 ⟨rfl, hU1⟩
        go_wp2_with fail
        refine (HRO.out _).mono ?_
        rintro e w2 ⟨rfl, rfl⟩
        have hB := HB.new w2 77 [.int .i64 m, .int .i64 x, .slice none 0 0, .func (.func g) #[] #[]]
        have y0 := hB.cell (j := 3) rfl
        go_wp2
        go_ret2
        exact ⟨rfl, hU1.alloc _⟩
      · have d1 : decide (x < 0) = false := decide_eq_false h4
        have d2 : decide (1000000 < x) = true := decide_eq_true (by omega)
        go_enter Try.func19, Try.ntmps19
        go_wp2_with fail
        refine HC.out.mono ?_
        rintro e w1 ⟨rfl, hU1⟩
        go_wp2_with fail
        refine (HRO.out _).mono ?_
        rintro e w2 ⟨rfl, rfl⟩
        have hB := HB.new w2 77 [.int .i64 m, .int .i64 x, .slice none 0 0, .func (.func g) #[] #[]]
        have y0 := hB.cell (j := 3) rfl
        go_wp2
        go_ret2
        exact ⟨rfl, hU1.alloc _⟩
  · rw [if_pos h1] at hre
    subst hre
    have hne : (r != 0) = true := by simpa using h1
    clear h
    go_enter Try.func19, Try.ntmps19
    go_wp2_with fail
    refine HC.out.mono ?_
    rintro e w1 ⟨rfl, hU1⟩
    go_wp2
    go_ret2
    exact ⟨rfl, hU1⟩
theorem chk_step {i : Nat} {p : Option Spc} {y : Spc} {l : List Spc} (h : (chk i p (y :: l)).2 = 0) : fitsS y p = true ∧ (chk (i + 1) (some y) l).2 = 0 := by
  unfold chk at h
  split at h
  · simp at h
  · rename_i hc
    simp only [not_or] at hc
    exact ⟨by simpa using hc.2, h⟩
theorem chk_pair : ∀ (l : List Spc) (i : Nat) (p : Option Spc), (chk i p l).2 = 0 → ∀ (k : Nat) (a b : Spc), l[k]? = some a → l[k + 1]? = some b → okPair a b = true
  | [], _, _, _, k, a, b, ha, _ => by simp at ha
  | [_], _, _, _, k, a, b, _, hb => by simp at hb
  | y :: z :: l, i, p, h, k, a, b, ha, hb => by
    have h1 := (chk_step h).2
    cases k with
    | zero =>
      simp at ha hb
      subst ha hb
      have h2 := (chk_step h1).1
      simp only [fitsS, Bool.and_eq_true] at h2
      exact h2.2
    | succ k => exact chk_pair (z :: l) (i + 1) (some y) h1 k a b (by simpa using ha) (by simpa using hb)
theorem newB_spc {s : Spc} (h : okSpc s = true) : (newB s).spc = s := by
  have h2 := okSpc_iff.1 h
  unfold newB Band.spc Band.n
  simp only [List.length_replicate]
  rw [Int.toNat_of_nonneg (by omega)]
theorem newF_ok {l : List Spc} {m x : Int} (hc : (check l).2 = 0) (hm : 1 ≤ m ∧ m ≤ 5) (hx : 0 ≤ x ∧ x ≤ 1000000) : (newF l m x).ok := by
  have hne : l ≠ [] := fun e => by subst e; simp [check] at hc
  have hbok : ∀ s ∈ l, (newB s).ok := by
    intro s hs
    obtain ⟨k, hk, e⟩ := List.mem_iff_getElem.1 hs
    have h1 := (chk_at hc (show l[k]? = some s by rw [List.getElem?_eq_getElem hk, e])).2
    have h2 := okSpc_iff.1 h1
    have h3 : (newB s).spc = s := by
      unfold newB Band.spc Band.n
      simp only [List.length_replicate]
      rw [Int.toNat_of_nonneg (by omega)]
    refine ⟨by rw [h3]; exact h1, fun k p hp => ?_⟩
    unfold newB at hp
    simp only at hp
    rw [List.getElem?_replicate] at hp
    split at hp <;> simp at hp
  refine ⟨hm, hx, by simpa [newF] using hne, ?_, ?_, ?_⟩
  · show (l.map newB).length ≤ 8
    rw [List.length_map]
    have hl := List.length_pos_iff.2 hne
    have h1 := (chk_at hc (List.getElem?_eq_getElem (show l.length - 1 < l.length by omega))).1
    omega
  · intro b hb
    simp only [newF, List.mem_map] at hb
    obtain ⟨s, hs, rfl⟩ := hb
    exact hbok s hs
  · intro k a b ha hb
    simp only [newF, List.getElem?_map, Option.map_eq_some_iff] at ha hb
    obtain ⟨s, hs, rfl⟩ := ha
    obtain ⟨s', hs', rfl⟩ := hb
    rw [newB_spc (chk_at hc hs).2, newB_spc (chk_at hc hs').2]
    have h1 : (chk 0 none l).2 = 0 := by
      unfold check at hc
      rw [if_neg hne] at hc
      exact hc
    exact chk_pair l 0 none h1 k s s' hs hs'
end Go.Proofs.Ytdjpcinibgbglaa
