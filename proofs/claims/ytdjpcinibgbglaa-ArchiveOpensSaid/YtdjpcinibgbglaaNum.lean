/- (*reader).number. -/
import Derived.Test.YtdjpcinibgbglaaBy
import Derived.Test.YtdjpcinibgbglaaUpd
import Derived.Test.YtdjpcinibgbglaaBits
set_option linter.unusedVariables false
set_option linter.unusedSimpArgs false
namespace Go.Proofs.Ytdjpcinibgbglaa
open Go.RowKit Go.Sort
def num (xs : List Int) : Int := xs.foldl (fun n c => n * 256 + c) 0
theorem num_snoc (xs : List Int) (c : Int) : num (xs ++ [c]) = num xs * 256 + c := by unfold num; rw [List.foldl_append]; rfl
theorem num_bd : ∀ (xs : List Int), Byt xs → 0 ≤ num xs ∧ num xs < 256 ^ xs.length := by
  intro xs
  induction h : xs.length generalizing xs with
  | zero =>
    intro _
    have : xs = [] := List.eq_nil_of_length_eq_zero h
    subst this
    simp [num]
  | succ n ih =>
    intro hb
    rcases List.eq_nil_or_concat xs with rfl | ⟨k, y, rfl⟩
    · simp at h
    · rw [List.concat_eq_append] at *
      rw [List.length_append, List.length_singleton] at h
      have h1 := ih k (by omega) (fun x hx => hb x (by simp [hx]))
      have h2 := hb y (by simp)
      rw [num_snoc, Int.pow_succ]
      omega
theorem p256_le {j : Nat} (h : j ≤ 7) : (256 : Int) ^ j ≤ 72057594037927936 := by
  have key : ∀ {i j : Nat}, i ≤ j → (256 : Int) ^ i ≤ 256 ^ j := by
    intro i j h
    induction h with
    | refl => exact Int.le_refl _
    | step _ ih =>
      rename_i m _
      have h1 : (0 : Int) < 256 ^ m := Int.pow_pos (by decide)
      rw [Int.pow_succ]
      omega
  exact Int.le_trans (key h) (by decide)
/-- The number of k bytes at a place; none: they are not there. -/
def numAt (l : List Int) (p k : Nat) : Option Int := if p + k ≤ l.length then some (num ((l.drop p).take k)) else none
theorem rowK_ne {α : Type} {w : World} {F : Nat → Prop} {enc : α → List Value} {k : Nat} {v : Value} {xs : List α} (h : RowK w F enc k v xs) {rb : Nat} (hn : ¬ F rb) {w' : World} (hU : Upd [rb] w w') : RowK w' F enc k v xs := h.upd hU (fun b hb => by simp at hb; subst hb; exact hn)
set_option maxRecDepth 10000 in
set_option maxHeartbeats 2000000 in
theorem number_calls (F : Nat → Prop) (rb : Nat) (sl : Value) (l : List Int) (p k : Nat) (w : World) (hB : HB w rb 123 [sl, .int .i64 p]) (hr : RowK w F bc 1 sl l) (hb : Byt l) (hk : k ≤ 8) (hp : p ≤ l.length) (hl0 : 0 < l.length) (hl : l.length ≤ 140737488355328) (hF : ¬ F rb) :
    Calls Try.prog 52 #[.pointer (some ⟨rb, 0, none⟩), .int .i64 k] w fun e w' => e = .returned (.tuple #[.int .u64 ((numAt l p k).getD 0), .bool (numAt l p k).isSome]) ∧ HB w' rb 123 [sl, .int .i64 (if (numAt l p k).isSome = true then p + k else p : Nat)] ∧ Upd [rb] w w' := by
  obtain ⟨A, c, rfl, hc1, hc2, hc3⟩ := hr.shape
  have HBR := Lib.hid hB
  have HR := Lib.hid hr
  have x0 := fun d os => rg_cell (hB.cell (j := 0) rfl) d os
  have x1 := fun d os => rg_cell (hB.cell (j := 1) rfl) d os
  have ew : wrap64 ((p : Int) + (k : Int)) = (p : Int) + (k : Int) := w64 (by unfold I64; omega)
  have ew2 : IntKind.i64.wrap ((p : Int) + (k : Int)) = (p : Int) + (k : Int) := wrapI' (by unfold I64; omega)
  clear hB hr
  by_cases hc : p + k ≤ l.length
  · have e0 : numAt l p k = some (num ((l.drop p).take k)) := by unfold numAt; rw [if_pos hc]
    rw [e0]
    simp only [Option.getD_some, Option.isSome_some, if_true]
    have d1 : decide (l.length < p + k) = false := decide_eq_false (by omega)
    have d1i : decide ((l.length : Int) < (p : Int) + (k : Int)) = false := decide_eq_false (by omega)
    go_enter Try.func52, Try.ntmps52
    go_wp2_with fail
    refine wp_region_quiet_below (by kernel_rfl) (by kernel_rfl) ?_
    repeat (go_big_quiet_step (fail))
    refine wpQuiet_nil ?_
    rintro _ ⟨⟨dq, osq⟩, rfl⟩
    clear x0 x1
    obtain ⟨W1, hW1⟩ : ∃ W1, W1 = grow (redrawn w dq) osq := ⟨_, rfl⟩
    have HU1 := Lib.hid (show Upd [] w W1 by rw [hW1]; exact rg_upd _ _ _)
    have hB1 := HBR.out.upd HU1.out (by simp)
    have x0 := fun d os => rg_cell (hB1.cell (j := 0) rfl) d os
    have x1 := fun d os => rg_cell (hB1.cell (j := 1) rfl) d os
    rw [← hW1]
    clear hW1 hB1 d1 d1i
    go_wp2_with fail
    have hs1 : (p : Int) ≤ (p : Int) + (k : Int) := by omega
    have hs2 : (p : Int) + (k : Int) ≤ (c : Int) := by omega
    have hs3 : (0 : Int) ≤ (p : Int) := by omega
    refine wp_region_quiet_below (by kernel_rfl) (by kernel_rfl) ?_
    cases A with
    | none =>
      have := hc3 rfl
      omega
    | some ad =>
      repeat (go_big_quiet_step (fail))
      refine wpQuiet_nil ?_
      rintro _ ⟨⟨dq, osq⟩, rfl⟩
      obtain ⟨W2, hW2⟩ : ∃ W2, W2 = grow (redrawn W1 dq) osq := ⟨_, rfl⟩
      have HU2 := Lib.hid (show Upd [] w W2 by rw [hW2]; exact HU1.out.then (rg_upd _ _ _))
      rw [← hW2]
      rw [show p + k - p = k by omega]
      clear hW2 x0 x1
      obtain ⟨A2, hA2⟩ : ∃ A2, A2 = if c = p then some ad else some (ad.add p) := ⟨_, rfl⟩
      rw [← hA2]
      have HA2 := Lib.hid hA2
      have hc1' := hc1
      clear hA2 hc2 hc3 ew ew2 hs1 hs2 hs3 e0 hc1
      go_wp2_with fail
      go_loopw [6, 37] (fun nv iv wr => ∃ j : Nat, j ≤ k ∧ iv = .int .i64 (j : Int) ∧ nv = .int .u64 (num ((l.drop p).take j)) ∧ Upd [] w wr) (fun _ iv _ => k - (intOf iv).toNat)
      case atStart => exact ⟨0, Nat.zero_le _, rfl, by simp [num], HU2.out⟩
      case round =>
        obtain ⟨j, hj, rfl, rfl, hU⟩ := hrel
        have HU := Lib.hid hU
        by_cases hjk : j < k
        · obtain ⟨x, hx⟩ : ∃ x, l[p + j]? = some x := ⟨l[p + j]'(by omega), List.getElem?_eq_getElem _⟩
          obtain ⟨g, o, hgo, _, hcx⟩ := HR.out.at_ hx
          injection hgo with hgo
          subst hgo
          obtain rfl : A2 = some ⟨g, o + p, none⟩ := by rw [HA2.out, if_neg (by omega), Addr.add_lit]
          have y0 : wr.cell? ⟨g, o + p + j, none⟩ = some (.int .u8 x) := hU.cell (by rw [Nat.add_assoc]; simpa using hcx 0 _ rfl) (by simp)
          obtain ⟨n, hn⟩ : ∃ n, n = num ((l.drop p).take j) := ⟨_, rfl⟩
          have hxb := hb x (List.mem_of_getElem? hx)
          have hjI : (j : Int) < (k : Int) := by omega
          have hnb := num_bd ((l.drop p).take j) (fun y hy => hb y (List.mem_of_mem_drop (List.mem_of_mem_take hy)))
          rw [← hn] at hnb
          have hlen : ((l.drop p).take j).length = j := by rw [List.length_take, List.length_drop]; omega
          rw [hlen] at hnb
          have h256 := p256_le (show j ≤ 7 by omega)
          have hor := or_byte (a := n) (c := x) ⟨hnb.1, by omega⟩ hxb
          have hms : k - (j + 1) < k - j := by omega
          rw [← hn]
          have HN := Lib.hid hn
          have HX := Lib.hid hx
          have hwr : IntKind.u64.wrap (n * 256) = n * 256 := by simp [IntKind.wrap, IntKind.bits, IntKind.signed]; omega
          rw [← hwr] at hor
          have HNX := Lib.hid (show num ((l.drop p).take (j + 1)) = n * 256 + x by
            rw [List.take_add_one, List.getElem?_drop, HX.out, Option.toList_some, num_snoc, ← hn])
          have HOR := Lib.hid (hor.trans (by rw [hwr]))
          clear hx hcx hn hlen h256 hU hor hwr
          go_wp2
          exact ⟨⟨j + 1, hjk, rfl, by rw [HNX.out]; exact congrArg (Value.int .u64) HOR.out, HU.out⟩, by simp [intOf]; omega⟩
        · obtain rfl : j = k := by omega
          have hB2 := HBR.out.upd HU.out (by simp)
          have b0 := hB2.cell (j := 0) rfl
          have b1 := hB2.cell (j := 1) rfl
          have bf1 := hB2.free 1
          have HB2 := Lib.hid hB2
          have ew : wrap64 ((p : Int) + (j : Int)) = ((p + j : Nat) : Int) := by rw [w64 (by unfold I64; omega)]; omega
          clear hB2 hU
          go_wp2
          go_ret2
          exact ⟨rfl, HB2.out.set 1 (.int .i64 ((p + j : Nat) : Int)), (HU.out.of0).setCell (.inl (by simp)) _⟩
  · have e0 : numAt l p k = none := by unfold numAt; rw [if_neg hc]
    rw [e0]
    simp only [Option.getD_none, Option.isSome_none, Bool.false_eq_true, if_false]
    have d1 : decide (l.length < p + k) = true := decide_eq_true (by omega)
    have d1i : decide ((l.length : Int) < (p : Int) + (k : Int)) = true := decide_eq_true (by omega)
    go_enter Try.func52, Try.ntmps52
    go_wp2_with fail
    refine wp_region_quiet_below (by kernel_rfl) (by kernel_rfl) ?_
    repeat (go_big_quiet_step (fail))
    refine wpQuiet_nil ?_
    rintro _ ⟨⟨dq, osq⟩, rfl⟩
    clear x0 x1
    have HU1 := Lib.hid (rg_upd w dq osq)
    have HB1 := Lib.hid (HBR.out.upd HU1.out (by simp))
    go_wp2
    go_ret2
    exact ⟨rfl, HB1.out, HU1.out.of0⟩
end Go.Proofs.Ytdjpcinibgbglaa
