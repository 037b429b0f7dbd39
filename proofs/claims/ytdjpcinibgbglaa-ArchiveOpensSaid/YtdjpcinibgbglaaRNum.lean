/- tumblerref01: limbs; trim, make2, limb, Of. Limbs, plainly: comparison and product. -/
import Derived.Test.YtdjpcinibgbglaaFn
set_option linter.unusedVariables false
set_option linter.unusedSimpArgs false
namespace Go.Proofs.Ytdjpcinibgbglaa
open Go.RowKit Go.Sort
def lv : List Int → Int
  | [] => 0
  | x :: l => x + 65536 * lv l
def Limbs (l : List Int) : Prop := ∀ x ∈ l, 0 ≤ x ∧ x ≤ 65535
def Canon (l : List Int) : Prop := l.getLast? ≠ some 0
def uc (x : Int) : List Value := [.int .u32 x]
theorem uc_len (x : Int) : (uc x).length = 1 := rfl
theorem lv_append : ∀ (a b : List Int), lv (a ++ b) = lv a + 65536 ^ a.length * lv b
  | [], b => by simp [lv]
  | x :: a, b => by
    rw [List.cons_append, lv, lv, lv_append a b, List.length_cons, Int.pow_succ, Int.mul_add, ← Int.mul_assoc, Int.mul_comm 65536 (65536 ^ a.length)]
    omega
theorem lv_nn : ∀ {l : List Int}, Limbs l → 0 ≤ lv l
  | [], _ => by simp [lv]
  | x :: l, h => by
    have h1 := (h x (by simp)).1
    have h2 := lv_nn (l := l) (fun y hy => h y (by simp [hy]))
    simp only [lv]
    omega
theorem lv_lt : ∀ {l : List Int}, Limbs l → lv l < 65536 ^ l.length
  | [], _ => by simp [lv]
  | x :: l, h => by
    have h1 := (h x (by simp)).2
    have h2 := lv_lt (l := l) (fun y hy => h y (by simp [hy]))
    rw [lv, List.length_cons, Int.pow_succ]
    omega
def trimL : List Int → List Int
  | [] => []
  | x :: l => if trimL l = [] ∧ x = 0 then [] else x :: trimL l
theorem trimL_snoc0 : ∀ (l : List Int), trimL (l ++ [0]) = trimL l
  | [] => by simp [trimL]
  | x :: l => by simp only [List.cons_append, trimL, trimL_snoc0 l]
theorem trimL_snoc {y : Int} (hy : y ≠ 0) : ∀ (l : List Int), trimL (l ++ [y]) = l ++ [y]
  | [] => by simp [trimL, hy]
  | x :: l => by simp only [List.cons_append, trimL, trimL_snoc hy l]; simp
theorem trimL_lv : ∀ (l : List Int), lv (trimL l) = lv l
  | [] => rfl
  | x :: l => by
    simp only [trimL]
    have ih := trimL_lv l
    split
    · rename_i h
      rw [h.1] at ih
      simp only [lv] at *
      omega
    · simp only [lv, ih]
theorem trimL_limbs : ∀ {l : List Int}, Limbs l → Limbs (trimL l)
  | [], _ => by intro x hx; simp [trimL] at hx
  | x :: l, h => by
    have ih := trimL_limbs (l := l) (fun y hy => h y (by simp [hy]))
    simp only [trimL]
    split
    · intro x hx; simp at hx
    · intro y hy
      simp only [List.mem_cons] at hy
      rcases hy with rfl | hy
      · exact h _ (by simp)
      · exact ih y hy
theorem trimL_canon : ∀ (l : List Int), Canon (trimL l)
  | [] => by simp [Canon, trimL]
  | x :: l => by
    have ih := trimL_canon l
    unfold Canon at *
    simp only [trimL]
    split
    · simp
    · rename_i h
      cases hl : trimL l with
      | nil =>
        rw [hl] at h
        simp at h
        simpa using h
      | cons y k =>
        rw [hl] at ih
        simpa using ih
theorem trimL_id {l : List Int} (h : Canon l) : trimL l = l := by
  rcases List.eq_nil_or_concat l with rfl | ⟨k, y, rfl⟩
  · rfl
  · unfold Canon at h
    simp only [List.concat_eq_append] at *
    exact trimL_snoc (by intro e; subst e; simp at h) k
theorem trimL_take {l : List Int} {k : Nat} {y : Int} (hy : l[k]? = some y) : trimL (l.take (k + 1)) = if y = 0 then trimL (l.take k) else l.take (k + 1) := by
  rw [List.take_add_one, hy, Option.toList_some]
  split
  · rename_i h; subst h; exact trimL_snoc0 _
  · rename_i h; exact trimL_snoc h _
theorem trimL_length (l : List Int) : (trimL l).length ≤ l.length := by
  induction l with
  | nil => simp [trimL]
  | cons x l ih =>
    simp only [trimL]
    split
    · simp
    · simp; omega
theorem maxLen_leA : maxLen ≤ 9223372036854775807 := by unfold maxLen; decide
set_option maxHeartbeats 1000000 in
theorem trim_calls (F : Nat → Prop) (v : Value) (l : List Int) (w : World) (hr : RowK w F uc 1 v l) :
    Calls Try.prog 80 #[v] w fun e w' => ∃ v', e = .returned v' ∧ (∀ W G, RowK W G uc 1 v l → RowK W G uc 1 v' (trimL l)) ∧ Upd [] w w' := by
  obtain ⟨A, c, rfl, hc1, hc2, hc3⟩ := hr.shape
  have hlm := Nat.le_trans hc1 (Nat.le_trans hc2 maxLen_leA)
  have HR := Lib.hid hr
  have HC := Lib.hid (And.intro hc1 (And.intro hc2 hc3))
  clear hr hc1 hc2 hc3
  go_enter Try.func80, Try.ntmps80
  go_wp2
  go_loopw [0] (fun i wr => ∃ k : Nat, k ≤ l.length ∧ i = .slice A k c ∧ trimL (l.take k) = trimL l ∧ Upd [] w wr) (fun i _ => match i with | .slice _ k _ => k | _ => 0)
  case atStart => exact ⟨l.length, Nat.le_refl _, rfl, by rw [List.take_length], Upd.refl _ _⟩
  case round =>
    obtain ⟨k, hk, rfl, ht, hU⟩ := hrel
    have HT := Lib.hid ht
    have HU := Lib.hid hU
    clear ht hU
    rcases k with _ | k
    · go_wp2
      go_ret
      refine ⟨_, rfl, fun W G hG => ?_, HU.out⟩
      rw [← HT.out]
      exact hG.take 0 (Nat.zero_le _)
    · obtain ⟨y, hy⟩ : ∃ y, l[k]? = some y := ⟨l[k], List.getElem?_eq_getElem (by omega)⟩
      obtain ⟨b, o, rfl, _, hcell⟩ := HR.out.at_ hy
      have h0 := HU.out.cell (show w.cell? ⟨b, o + k, none⟩ = some (.int .u32 y) by simpa using hcell 0 _ rfl) (by simp)
      have hst := trimL_take hy
      have hkI : (0 : Int) < (k : Int) + 1 := by omega
      have hkI2 : (k : Int) < (k : Int) + 1 := by omega
      have HW := Lib.hid (show wrap64 (k : Int) = (k : Int) by rw [w64 (by unfold I64; omega)])
      have hkc : k ≤ c := by have := HC.out.1; omega
      have hcm := HC.out.2.1
      clear hcell hy
      by_cases h : y = 0
      · subst h
        rw [if_pos rfl] at hst
        have hw := HW.out
        have HST := Lib.hid (hst.symm.trans HT.out)
        clear hst
        go_wp2
        exact ⟨⟨k, by omega, rfl, HST.out, HU.out⟩, by show k < k + 1; omega⟩
      · have e : (y == 0) = false := beq_false_of_ne h
        rw [if_neg h] at hst
        have HST := Lib.hid (hst.symm.trans HT.out)
        clear hst h
        have hw := HW.out
        go_wp2
        go_ret
        exact ⟨_, rfl, fun W G hG => by rw [← HST.out]; exact hG.take (k + 1) hk, HU.out⟩
set_option maxHeartbeats 1000000 in
theorem make2_calls (F : Nat → Prop) (neg : Bool) (v : Value) (l : List Int) (w : World) (hr : RowK w F uc 1 v l) :
    Calls Try.prog 62 #[.bool neg, v] w fun e w' => ∃ v', e = .returned (.agg #[.bool (neg && decide (trimL l ≠ [])), v']) ∧ (∀ W G, RowK W G uc 1 v l → RowK W G uc 1 v' (trimL l)) ∧ Upd [] w w' := by
  have hU0 := (Upd.refl [] w).alloc (.cells #[.bool false, .slice none 0 0] 98)
  have hB0 := HB.new w 98 [.bool false, .slice none 0 0]
  have HC := Lib.hid (trim_calls F v l _ (hr.upd0 hU0))
  have HU0 := Lib.hid hU0
  have HB0 := Lib.hid hB0
  have HR := Lib.hid hr
  obtain ⟨l', hl'⟩ : ∃ l', l' = trimL l := ⟨_, rfl⟩
  rw [← hl'] at HC ⊢
  obtain ⟨d, hd⟩ : ∃ d, d = decide (l' ≠ []) := ⟨_, rfl⟩
  rw [← hd]
  have HD := Lib.hid hd
  clear hr hU0 hB0 hl' hd
  go_enter Try.func62, Try.ntmps62
  go_wp2_with fail
  refine HC.out.mono ?_
  rintro e w1 ⟨v', rfl, hsub, hU1⟩
  obtain ⟨A, c, rfl, hc1, hc2, hc3⟩ := (hsub _ _ HR.out).shape
  have hlm := Nat.le_trans hc1 (Nat.le_trans hc2 maxLen_leA)
  have HS := Lib.hid hsub
  have hz := HB0.out.upd hU1 (by simp)
  have HU1 := Lib.hid (HU0.out.then hU1)
  have f0 := hz.free 0
  have f1 := hz.free 1
  have y0 := hz.cell (j := 0) rfl
  have y1 := hz.cell (j := 1) rfl
  have HZ := Lib.hid hz
  have hcond : (decide ((0 : Int) < (l'.length : Int))) = decide (l' ≠ []) := by
    cases l' with
    | nil => simp
    | cons x k => simp
  rw [← HD.out] at hcond
  have hcondN : decide (0 < l'.length) = d := by rw [← hcond]; simp
  clear hU1 hz HC hc1 hc2 hc3 hsub
  cases neg
  all_goals
    go_wp2
  · have hy := ((HZ.out.set 0 (.bool false)).set 1 (.slice A l'.length c))
    have k0 := hy.cell (j := 0) rfl
    have k1 := hy.cell (j := 1) rfl
    refine bodyPost_ret (v := .agg #[.bool false, .slice A l'.length c]) ?_ rfl ⟨_, rfl, HS.out, (HU1.out.setCell (.inr (by simp)) _).setCell (.inr (by simp)) _⟩
    simp [results, Try.f62, go_sem, k0, k1]
  · have hy := ((HZ.out.set 0 (.bool d)).set 1 (.slice A l'.length c))
    have k0 := hy.cell (j := 0) rfl
    have k1 := hy.cell (j := 1) rfl
    refine bodyPost_ret (v := .agg #[.bool d, .slice A l'.length c]) ?_ rfl ⟨_, by simp, HS.out, (HU1.out.setCell (.inr (by simp)) _).setCell (.inr (by simp)) _⟩
    simp [results, Try.f62, go_sem, hcondN, k0, k1]
theorem limb_calls (F : Nat → Prop) (v : Value) (l : List Int) (i : Nat) (w : World) (hr : RowK w F uc 1 v l) :
    Calls Try.prog 101 #[v, .int .i64 i] w fun e w' => e = .returned (.int .u32 (l.getD i 0)) ∧ Upd [] w w' := by
  obtain ⟨A, c, rfl, hc1, hc2, hc3⟩ := hr.shape
  have hlm := Nat.le_trans hc1 (Nat.le_trans hc2 maxLen_leA)
  obtain ⟨y, hy⟩ : ∃ y, y = l.getD i 0 := ⟨_, rfl⟩
  rw [← hy]
  by_cases h : i < l.length
  · obtain ⟨x, hx⟩ : ∃ x, l[i]? = some x := ⟨l[i], List.getElem?_eq_getElem h⟩
    obtain rfl : y = x := by rw [hy, List.getD_eq_getElem?_getD, hx]; rfl
    obtain ⟨b, o, rfl, _, hcell⟩ := hr.at_ hx
    have h0 : w.cell? ⟨b, o + i, none⟩ = some (.int .u32 y) := by simpa using hcell 0 _ rfl
    have hI : (i : Int) < (l.length : Int) := by omega
    clear hr hcell hx hy
    go_enter Try.func101, Try.ntmps101
    go_wp2
    go_ret
    exact ⟨rfl, Upd.refl _ _⟩
  · obtain rfl : y = 0 := by rw [hy, List.getD_eq_getElem?_getD, List.getElem?_eq_none (by omega)]; rfl
    have hI : ¬ (i : Int) < (l.length : Int) := by omega
    clear hr hy
    go_enter Try.func101, Try.ntmps101
    go_wp2
    go_ret
    exact ⟨rfl, Upd.refl _ _⟩
theorem rof_calls (n : Int) (hn : I64 n) (w : World) : Calls Try.prog 82 #[.int .i64 n] w fun e w' => e = .returned (wide n) ∧ Upd [] w w' := by
  have e2 : IntKind.u64.wrap n = wl n := by simp [IntKind.wrap, IntKind.bits, IntKind.signed, wl]
  unfold I64 at hn
  have hz := HB.new w 47 [.int .i64 (wh n), .int .u64 (wl n)]
  have hU0 := (Upd.refl [] w).alloc (.cells #[.int .i64 (wh n), .int .u64 (wl n)] 47)
  have k0 := hz.cell (j := 0) rfl
  have k1 := hz.cell (j := 1) rfl
  unfold wide
  clear hz hU0
  by_cases h : n < 0
  · have e1 : wh n = -1 := by unfold wh; omega
    rw [e1] at *
    clear e1
    have d : decide (n < 0) = true := decide_eq_true h
    go_enter Try.func82, Try.ntmps82
    go_wp2
    refine bodyPost_ret (v := .agg #[.int .i64 (-1), .int .u64 (wl n)]) ?_ rfl ⟨rfl, (Upd.refl _ _).alloc _⟩
    simp [results, Try.f82, go_sem, k0, k1]
  · have e1 : wh n = 0 := by unfold wh; omega
    rw [e1] at *
    clear e1
    have d : decide (n < 0) = false := decide_eq_false h
    go_enter Try.func82, Try.ntmps82
    go_wp2
    refine bodyPost_ret (v := .agg #[.int .i64 0, .int .u64 (wl n)]) ?_ rfl ⟨rfl, (Upd.refl _ _).alloc _⟩
    simp [results, Try.f82, go_sem, k0, k1]
end Go.Proofs.Ytdjpcinibgbglaa
namespace Go.Proofs.Ytdjpcinibgbglaa
open Go.RowKit
theorem Limbs.take {l : List Int} (h : Limbs l) (i : Nat) : Limbs (l.take i) := fun x hx => h x (List.mem_of_mem_take hx)
theorem Limbs.drop {l : List Int} (h : Limbs l) (i : Nat) : Limbs (l.drop i) := fun x hx => h x (List.mem_of_mem_drop hx)
theorem Limbs.set {l : List Int} (h : Limbs l) (i : Nat) {y : Int} (hy : 0 ≤ y ∧ y ≤ 65535) : Limbs (l.set i y) := fun x hx => by
  rcases List.mem_or_eq_of_mem_set hx with hx | rfl
  · exact h x hx
  · exact hy
theorem pw_pos (k : Nat) : (0 : Int) < 65536 ^ k := Int.pow_pos (by decide)
theorem pw_le {i j : Nat} (h : i ≤ j) : (65536 : Int) ^ i ≤ 65536 ^ j := by
  induction h with
  | refl => exact Int.le_refl _
  | step _ ih =>
    rename_i m _
    have h1 := pw_pos m
    rw [Int.pow_succ]
    omega
theorem pw_lt {i j : Nat} (h : (65536 : Int) ^ i < 65536 ^ j) : i < j := by
  by_cases hh : i < j
  · exact hh
  · have := pw_le (show j ≤ i by omega)
    omega
theorem lv_split (l : List Int) (i : Nat) (h : i ≤ l.length) : lv l = lv (l.take i) + 65536 ^ i * lv (l.drop i) := by
  have := lv_append (l.take i) (l.drop i)
  rw [List.take_append_drop, List.length_take, Nat.min_eq_left h] at this
  exact this
theorem lv_take1 {l : List Int} {i : Nat} {x : Int} (h : l[i]? = some x) : lv (l.take (i + 1)) = lv (l.take i) + 65536 ^ i * x := by
  have hl := (List.getElem?_eq_some_iff.1 h).1
  rw [List.take_add_one, h, Option.toList_some, lv_append, List.length_take, Nat.min_eq_left (by omega)]
  simp [lv]
theorem lv_takeD (l : List Int) (i : Nat) : lv (l.take (i + 1)) = lv (l.take i) + 65536 ^ i * l.getD i 0 := by
  by_cases h : i < l.length
  · rw [lv_take1 (List.getElem?_eq_getElem h), List.getD_eq_getElem?_getD, List.getElem?_eq_getElem h]; rfl
  · rw [List.take_of_length_le (by omega), List.take_of_length_le (by omega), List.getD_eq_getElem?_getD, List.getElem?_eq_none (by omega)]; simp
theorem limb_bd {l : List Int} (h : Limbs l) (i : Nat) : 0 ≤ l.getD i 0 ∧ l.getD i 0 ≤ 65535 := by
  rw [List.getD_eq_getElem?_getD]
  by_cases hi : i < l.length
  · rw [List.getElem?_eq_getElem hi]; exact h _ (List.getElem_mem _)
  · rw [List.getElem?_eq_none (by omega)]; simp
theorem canon_ge {l : List Int} (hl : Limbs l) (hc : Canon l) (hne : l ≠ []) : 65536 ^ (l.length - 1) ≤ lv l := by
  rcases List.eq_nil_or_concat l with rfl | ⟨k, y, rfl⟩
  · exact absurd rfl hne
  · unfold Canon at hc
    simp only [List.concat_eq_append] at *
    have hy := hl y (by simp)
    have hy0 : y ≠ 0 := by intro e; subst e; simp at hc
    have h1 := lv_append k [y]
    have h2 := lv_nn (l := k) (fun x hx => hl x (by simp [hx]))
    have h3 := Int.mul_le_mul_of_nonneg_left (show 1 ≤ y by omega) (Int.le_of_lt (pw_pos k.length))
    simp only [lv, Int.mul_zero, Int.add_zero] at h1
    rw [h1, List.length_append, List.length_singleton, Nat.add_sub_cancel]
    omega
theorem len_lt {a b : List Int} (ha : Limbs a) (hb : Limbs b) (hc : Canon b) (h : a.length < b.length) : lv a < lv b := by
  have h1 := lv_lt ha
  have h2 := canon_ge hb hc (by intro e; subst e; simp at h)
  have h3 := pw_le (show a.length ≤ b.length - 1 by omega)
  omega
theorem top_lt {a b : List Int} (ha : Limbs a) (hb : Limbs b) {i : Nat} {x y : Int} (hx : a[i]? = some x) (hy : b[i]? = some y) (he : a.drop (i + 1) = b.drop (i + 1)) (h : x < y) : lv a < lv b := by
  have hla := (List.getElem?_eq_some_iff.1 hx).1
  have hlb := (List.getElem?_eq_some_iff.1 hy).1
  have h1 := lv_split a (i + 1) (by omega)
  have h2 := lv_split b (i + 1) (by omega)
  rw [lv_take1 hx, he] at h1
  rw [lv_take1 hy] at h2
  have h3 := lv_lt (ha.take i)
  rw [List.length_take, Nat.min_eq_left (by omega)] at h3
  have h4 := lv_nn (hb.take i)
  have h5 := Int.mul_le_mul_of_nonneg_left (show x + 1 ≤ y by omega) (Int.le_of_lt (pw_pos i))
  rw [Int.mul_add, Int.mul_one] at h5
  omega
theorem lv_inj {a b : List Int} (h : ∀ i : Nat, a[i]? = b[i]?) : a = b := List.ext_getElem? h
theorem lv_set {l : List Int} {i : Nat} {o y : Int} (h : l[i]? = some o) : lv (l.set i y) = lv l + 65536 ^ i * (y - o) := by
  have hl := (List.getElem?_eq_some_iff.1 h).1
  have h1 := lv_split l (i + 1) (by omega)
  have h2 := lv_split (l.set i y) (i + 1) (by simp; omega)
  rw [lv_take1 h] at h1
  rw [lv_take1 (x := y) (by rw [List.getElem?_set_self hl]), List.take_set, List.drop_set, if_pos (by omega)] at h2
  have h3 : (l.take i).set i y = l.take i := List.set_eq_of_length_le (by simp; omega)
  rw [h3] at h2
  rw [h2, h1, Int.mul_sub]
  omega
/-- The state of a long product: row i, column j. -/
structure MulJ (a b : List Int) (i j : Nat) (out : List Int) (c : Int) : Prop where
  len : out.length = a.length + b.length
  limbs : Limbs out
  cb : 0 ≤ c ∧ c ≤ 65535
  eq : lv out + 65536 ^ (i + j) * c = lv (a.take i) * lv b + 65536 ^ i * (a.getD i 0 * lv (b.take j))
theorem MulJ.room {a b out : List Int} {i j : Nat} {c : Int} (h : MulJ a b i j out c) (ha : Limbs a) (hb : Limbs b) (hi : i < a.length) (hg : j < b.length ∨ 0 < c) : i + j < a.length + b.length := by
  by_cases hj : j < b.length
  · omega
  · have hc : 0 < c := by omega
    have h1 := h.eq
    rw [List.take_of_length_le (show b.length ≤ j by omega), Int.mul_left_comm, ← Int.mul_assoc, Int.mul_comm (a.getD i 0) (65536 ^ i), ← Int.add_mul, ← lv_takeD] at h1
    have h2 := lv_lt (ha.take (i + 1))
    rw [List.length_take, Nat.min_eq_left (by omega)] at h2
    have h3 := lv_lt hb
    have h4 := lv_nn (ha.take (i + 1))
    have h5 := lv_nn hb
    have h6 := lv_nn h.limbs
    have h7 : lv (a.take (i + 1)) * lv b ≤ 65536 ^ (i + 1) * lv b := Int.mul_le_mul_of_nonneg_right (by omega) h5
    have h8 : 65536 ^ (i + 1) * lv b < 65536 ^ (i + 1) * 65536 ^ b.length := Int.mul_lt_mul_of_pos_left h3 (pw_pos _)
    rw [← Int.pow_add] at h8
    have h9 := Int.mul_le_mul_of_nonneg_left (show 1 ≤ c by omega) (Int.le_of_lt (pw_pos (i + j)))
    have h10 := pw_lt (i := i + j) (j := i + 1 + b.length) (by omega)
    omega
theorem MulJ.step {a b out : List Int} {i j : Nat} {c o : Int} (h : MulJ a b i j out c) (ha : Limbs a) (hb : Limbs b) (ho : out[i + j]? = some o) :
    MulJ a b i (j + 1) (out.set (i + j) ((o + a.getD i 0 * b.getD j 0 + c) % 65536)) ((o + a.getD i 0 * b.getD j 0 + c) / 65536) := by
  have hob := h.limbs o (List.mem_of_getElem? ho)
  have hc := h.cb
  have hai := limb_bd ha i
  have hbj := limb_bd hb j
  have hp1 : a.getD i 0 * b.getD j 0 ≤ 65535 * 65535 := Int.mul_le_mul hai.2 hbj.2 hbj.1 (by decide)
  have hp0 : 0 ≤ a.getD i 0 * b.getD j 0 := Int.mul_nonneg hai.1 hbj.1
  have he := h.eq
  refine ⟨by rw [List.length_set]; exact h.len, h.limbs.set _ (by omega), by omega, ?_⟩
  rw [lv_set ho, lv_takeD]
  have e1 : (65536 : Int) ^ (i + (j + 1)) = 65536 ^ (i + j) * 65536 := by rw [← Nat.add_assoc, Int.pow_succ]
  rw [e1]
  generalize hs : o + a.getD i 0 * b.getD j 0 + c = s at *
  have e2 : (65536 : Int) ^ (i + j) * 65536 * (s / 65536) = 65536 ^ (i + j) * (s - s % 65536) := by
    rw [Int.mul_assoc]; congr 1; omega
  rw [e2]
  have e3 : (65536 : Int) ^ i * (a.getD i 0 * (lv (b.take j) + 65536 ^ j * b.getD j 0)) = 65536 ^ i * (a.getD i 0 * lv (b.take j)) + 65536 ^ (i + j) * (a.getD i 0 * b.getD j 0) := by
    rw [Int.mul_add, Int.mul_add, Int.pow_add]
    congr 1
    rw [Int.mul_left_comm (a.getD i 0), Int.mul_assoc]
  rw [e3]
  have e4 : (65536 : Int) ^ (i + j) * (s % 65536 - o) + 65536 ^ (i + j) * (s - s % 65536) = 65536 ^ (i + j) * (a.getD i 0 * b.getD j 0) + 65536 ^ (i + j) * c := by
    rw [← Int.mul_add, ← Int.mul_add]; congr 1; omega
  omega
theorem MulJ.done {a b out : List Int} {i j : Nat} (h : MulJ a b i j out 0) (hj : b.length ≤ j) : MulJ a b (i + 1) 0 out 0 := by
  refine ⟨h.len, h.limbs, by omega, ?_⟩
  have h1 := h.eq
  rw [List.take_of_length_le hj] at h1
  rw [lv_takeD]
  simp only [List.take_zero, lv, Int.mul_zero, Int.add_zero] at h1 ⊢
  rw [h1, Int.add_mul, Int.mul_assoc]
theorem MulJ.start (a b : List Int) : MulJ a b 0 0 (List.replicate (a.length + b.length) 0) 0 := by
  have hz : ∀ n, lv (List.replicate n 0) = 0 := by
    intro n
    induction n with
    | zero => rfl
    | succ n ih => rw [List.replicate_succ, lv, ih]; omega
  refine ⟨by simp, fun x hx => ?_, by omega, ?_⟩
  · rw [List.mem_replicate] at hx; omega
  · rw [hz]; simp [lv]
theorem MulJ.last {a b out : List Int} (h : MulJ a b a.length 0 out 0) : lv out = lv a * lv b := by
  have h1 := h.eq
  simpa [lv] using h1
end Go.Proofs.Ytdjpcinibgbglaa
