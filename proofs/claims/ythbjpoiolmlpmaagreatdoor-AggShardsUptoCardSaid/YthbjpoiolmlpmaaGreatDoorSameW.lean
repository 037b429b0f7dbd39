/- tumblerref08.Same: of windows that read the same it says yes. -/
import Derived.Test.YthbjpoiolmlpmaaGreatDoorAlike
set_option linter.unusedVariables false
set_option linter.unusedSimpArgs false
namespace Go.Proofs.YthbjpoiolmlpmaaGreatDoor
open Go.RowKit
def winC (p : Int × Value) : List Value := [.int .i64 p.1, p.2]
set_option maxHeartbeats 2000000 in
set_option maxRecDepth 20000 in
theorem same_calls (va vb : Value) (l m : List (Int × Value)) (F G : Nat → Prop) (w : World) (ha : RowK w F winC 2 va l) (hb : RowK w G winC 2 vb m) (hlm : l.length = m.length)
    (hx : ∀ (i : Nat) (p q : Int × Value), l[i]? = some p → m[i]? = some q → p.1 = q.1 ∧ ∀ W, Upd [] w W → Calls Tryz.prog 33 #[p.2, q.2] W fun e w' => e = .returned (.bool true) ∧ Upd [] W w') :
    Calls Tryz.prog 14 #[va, vb] w fun e w' => e = .returned (.bool true) ∧ Upd [] w w' := by
  obtain ⟨A, c, rfl, hlc, hcm, _⟩ := ha.shape
  obtain ⟨B, c', rfl, hlc', hcm', _⟩ := hb.shape
  obtain ⟨n, hn⟩ : ∃ n, n = l.length := ⟨_, rfl⟩
  have hm : n ≤ 9223372036854775807 := by unfold maxLen at hcm; omega
  have E1 := Lib.hid hn
  have E2 := Lib.hid (show n = m.length by omega)
  have HA := Lib.hid ha
  have HB' := Lib.hid hb
  have HX := Lib.hid hx
  rw [← hlm, ← hn] 
  rw [← hn] at hlc
  rw [← hlm, ← hn] at hlc'
  clear ha hb hx hlm hn
  go_enter Tryz.func14, Tryz.ntmps14
  go_wp2
  go_loopw [5] (fun i wr => ∃ k : Nat, k ≤ n ∧ i = .int .i64 k ∧ Upd [] w wr) (fun i _ => n - (intOf i).toNat)
  case atStart => exact ⟨0, Nat.zero_le _, rfl, Upd.refl _ _⟩
  case round =>
    obtain ⟨k, hkn, rfl, hU⟩ := hrel
    have KU := Lib.hid hU
    clear hU
    by_cases hlt : k < n
    · obtain ⟨p, hp⟩ : ∃ p, l[k]? = some p := ⟨l[k]'(by have := E1.out; omega), List.getElem?_eq_getElem _⟩
      obtain ⟨q, hq⟩ : ∃ q, m[k]? = some q := ⟨m[k]'(by have := E2.out; omega), List.getElem?_eq_getElem _⟩
      obtain ⟨hpq, hcall⟩ := HX.out k p q hp hq
      obtain ⟨b1, o1, rfl, _, f1⟩ := HA.out.at_ hp
      obtain ⟨b2, o2, rfl, _, f2⟩ := HB'.out.at_ hq
      obtain ⟨i1, v1⟩ := p
      obtain ⟨i2, v2⟩ := q
      dsimp only at hpq hcall
      subst hpq
      have HC := Lib.hid hcall
      have x0 := fun z : Wd [] wr => (KU.out.then z.h).cell (f1 0 (.int .i64 i1) rfl) (by simp)
      have x1 := fun z : Wd [] wr => (KU.out.then z.h).cell (f1 1 v1 rfl) (by simp)
      have y0 := fun z : Wd [] wr => (KU.out.then z.h).cell (f2 0 (.int .i64 i1) rfl) (by simp)
      have y1 := fun z : Wd [] wr => (KU.out.then z.h).cell (f2 1 v2 rfl) (by simp)
      simp only [Nat.add_zero] at x0 y0
      clear f1 f2 hcall hp hq
      go_wp2_with fail
      refine mix_start (n := 25) 22 (fun w' => ∃ p : Wd [] wr, w' = p.v) (by kernel_rfl) (by kernel_rfl) ?_
      refine mix_quiet [true, true, true, true, true, true, true, true, true, true, true, true, true, true, true, true, true, true, true, true, true, true] 3 rfl (by kernel_rfl) (by kernel_rfl) (by kernel_rfl) (by kernel_rfl) ⟨⟨_, (Upd.refl [] wr).drew⟩, rfl⟩ ?_
      simp only [maskL]
      repeat (go_big_quiet_step (fail))
      refine wpQuiet_nil ?_
      clear x0 x1 y0 y1
      refine mix_tail (by kernel_rfl) (by kernel_rfl) ?_
      simp only [List.drop_succ_cons, List.drop_zero]
      go_wp2_with fail
      refine (HC.out _ (by exact KU.out.drew)).mono ?_
      rintro e w2 ⟨rfl, hg⟩
      have hU2 := Lib.hid (KU.out.drew.then hg)
      clear hg
      go_wp2
      go_roundw
      case rel => exact ⟨k + 1, by omega, by go_num, hU2.out⟩
      case measure => simp [intOf]; omega
    · go_wp2
      go_ret
      exact ⟨rfl, KU.out⟩
end Go.Proofs.YthbjpoiolmlpmaaGreatDoor
