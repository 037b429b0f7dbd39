/- Package archive: the small functions. -/
import Derived.Test.YtdjpcinibgbglaaArc
import Derived.Test.YtdjpcinibgbglaaQB
import Derived.Test.YtdjpcinibgbglaaRow
import Derived.BigQuiet
set_option linter.unusedVariables false
set_option linter.unusedSimpArgs false
namespace Go.Proofs.Ytdjpcinibgbglaa
open Go.RowKit

theorem second_calls (t : Int) (w : World) : Calls Try.prog 41 #[.int .i64 t] w fun e w' => e = .returned (.bool (sec t)) ∧ w' = w := by
  obtain ⟨r, hr⟩ : ∃ r, r = sec t := ⟨_, rfl⟩
  rw [← hr]
  unfold sec at hr
  by_cases c1 : 0 ≤ t
  · by_cases c2 : t ≤ 1099511627775
    · obtain rfl : true = r := by rw [hr]; first | rw [decide_eq_true c1, decide_eq_true c2]; rfl | rw [decide_eq_true c1, decide_eq_false c2]; rfl
      clear hr
      go_enter Try.func41, Try.ntmps41
      go_wp2
      go_ret
      exact ⟨rfl, rfl⟩
    · obtain rfl : false = r := by rw [hr]; first | rw [decide_eq_true c1, decide_eq_true c2]; rfl | rw [decide_eq_true c1, decide_eq_false c2]; rfl
      have e2 : decide (t ≤ 1099511627775) = false := by simpa using c2
      clear hr
      go_enter Try.func41, Try.ntmps41
      go_wp2
      go_ret
      exact ⟨rfl, rfl⟩
  · obtain rfl : false = r := by rw [hr, decide_eq_false c1]; rfl
    have e2 : decide (0 ≤ t) = false := by simpa using c1
    clear hr
    go_enter Try.func41, Try.ntmps41
    go_wp2
    go_ret
    exact ⟨rfl, rfl⟩
theorem reach_calls (s n : Int) (h : I64 (s * n)) (w : World) : Calls Try.prog 43 #[.agg #[.int .i64 s, .int .i64 n]] w fun e w' => e = .returned (.int .i64 (s * n)) ∧ Upd [] w w' := by
  unfold I64 at h
  have hw : IntKind.i64.wrap (s * n) = s * n := by simp [IntKind.wrap, IntKind.bits, IntKind.signed]; omega
  go_enter Try.func43, Try.ntmps43
  go_wp2
  go_ret
  exact ⟨rfl, (Upd.refl _ _).alloc _⟩
/-- A band's block: what it is, and where its places lie. -/
abbrev bandC (b : Band) (l i : Nat) : List Value := [.int .i64 b.step, .int .i64 b.n, .slice (some ⟨l, 0, none⟩) b.n b.n, .slice (some ⟨i, 0, none⟩) b.n b.n]
abbrev pB (b : Nat) : Value := .pointer (some ⟨b, 0, none⟩)
theorem tmod_nn {t s : Int} (h : 0 ≤ t) : t.tmod s = t % s := Int.tmod_eq_emod_of_nonneg h
theorem wrapI' {x : Int} (h : I64 x) : IntKind.i64.wrap x = x := by
  unfold I64 at h
  simp [IntKind.wrap, IntKind.bits, IntKind.signed]
  omega
theorem w64 {x : Int} (h : I64 x) : wrap64 x = x := by unfold I64 at h; unfold wrap64; omega
theorem emod_le' {t s : Int} (ht : 0 ≤ t) (hs : 1 ≤ s) : 0 ≤ t % s ∧ t % s < s ∧ t % s ≤ t := by
  have h1 := Int.emod_nonneg t (show s ≠ 0 by omega)
  have h2 := Int.emod_lt_of_pos t (show 0 < s by omega)
  have h3 := Int.mul_ediv_add_emod t s
  have h4 : 0 ≤ s * (t / s) := Int.mul_nonneg (by omega) (Int.ediv_nonneg ht (by omega))
  omega
theorem ediv_le' {t s : Int} (ht : 0 ≤ t) (hs : 1 ≤ s) : 0 ≤ t / s ∧ t / s ≤ t := by
  have h1 := Int.ediv_nonneg ht (show 0 ≤ s by omega)
  have h2 := Int.ediv_le_self s ht
  omega
abbrev T62 (t : Int) : Prop := 0 ≤ t ∧ t ≤ 4611686018427387904
theorem interval_calls (bb l i : Nat) (b : Band) (t : Int) (w : World) (hb : HB w bb 107 (bandC b l i)) (hs : 1 ≤ b.step) (ht : T62 t) :
    Calls Try.prog 46 #[pB bb, .int .i64 t] w fun e w' => e = .returned (.int .i64 (t - t % b.step)) ∧ w' = w := by
  have y0 := hb.cell (j := 0) rfl
  have e1 := tmod_nn (s := b.step) ht.1
  have e2 : IntKind.i64.wrap (t - t % b.step) = t - t % b.step := wrapI' (by
    have := emod_le' ht.1 hs
    unfold T62 at ht
    unfold I64
    omega)
  have e3 : (b.step == 0) = false := by simp; omega
  clear hb ht
  go_enter Try.func46, Try.ntmps46
  go_wp2
  go_ret
  exact ⟨rfl, rfl⟩
theorem place_nat {b : Band} {t : Int} (hs : 1 ≤ b.step) (hn : 1 ≤ b.n) (ht : 0 ≤ t) : t / b.step % (b.n : Int) = (b.place t : Int) ∧ b.place t < b.n := by
  have h1 := ediv_le' ht hs
  have h2 := emod_le' h1.1 (show (1 : Int) ≤ b.n by omega)
  unfold Band.place
  omega
theorem place_calls (bb l i : Nat) (b : Band) (t : Int) (w : World) (hb : HB w bb 107 (bandC b l i)) (hs : 1 ≤ b.step) (hn : 1 ≤ b.n) (hn2 : b.n ≤ 4096) (ht : T62 t) :
    Calls Try.prog 76 #[pB bb, .int .i64 t] w fun e w' => e = .returned (.int .i64 (b.place t : Int)) ∧ ∃ n, w' = w.drewN n := by
  have y0 := hb.cell (j := 0) rfl
  have y1 := hb.cell (j := 1) rfl
  have h1 := ediv_le' ht.1 hs
  have e0 : t.tdiv b.step = t / b.step := Int.tdiv_eq_ediv_of_nonneg ht.1
  have e1 := tmod_nn (s := (b.n : Int)) h1.1
  have e2 := (place_nat hs hn ht.1).1
  have e3 : (b.step == 0) = false := by simp; omega
  have e4 : ((b.n : Int) == 0) = false := by simp; omega
  have e5 : IntKind.i64.wrap (t / b.step) = t / b.step := wrapI' (by unfold T62 at ht; unfold I64; omega)
  have e6 : IntKind.i64.wrap (b.place t : Int) = (b.place t : Int) := wrapI' (by have := (place_nat hs hn ht.1).2; unfold I64; omega)
  clear hb ht h1
  go_enter Try.func76, Try.ntmps76
  go_wp2
  go_quiet (fail)
  go_wp2
  go_ret
  exact ⟨rfl, _, rfl⟩
abbrev spcV (s : Spc) : Value := .agg #[.int .i64 s.1, .int .i64 s.2]
abbrev spcC (s : Spc) : List Value := [.int .i64 s.1, .int .i64 s.2]
def I64S (s : Spc) : Prop := I64 s.1 ∧ I64 s.2
theorem okSpc_no {s n : Int} (h : ¬ (1 ≤ s ∧ s ≤ 1099511627775 ∧ 1 ≤ n ∧ n ≤ 4096 ∧ s ≤ 1099511627775 / n)) (p : Option Spc) : fitsS (s, n) p = false := by
  have : okSpc (s, n) = false := by
    rw [← Bool.not_eq_true, okSpc_iff]
    exact h
  cases p <;> simp [fitsS, this]
end Go.Proofs.Ytdjpcinibgbglaa
