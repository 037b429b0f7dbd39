/- Package wide: Sum. -/
import Derived.Test.YtdjpcinibgbglaaMul
import Derived.Test.YtdjpcinibgbglaaKern
set_option linter.unusedVariables false
set_option linter.unusedSimpArgs false
namespace Go.Proofs.Ytdjpcinibgbglaa
open Go.RowKit

def wc (z : Int) : List Value := [.int .i64 (wh z), .int .u64 (wl z)]
theorem wc_len (z : Int) : (wc z).length = 2 := rfl
/-- The three limbs of a sum. -/
def s0 (p : Int) : Int := p % 18446744073709551616
def s1 (p : Int) : Int := p / 18446744073709551616 % 18446744073709551616
def s2 (p : Int) : Int := p / 340282366920938463463374607431768211456 % 18446744073709551616
theorem s_step (p z : Int) (hz : I128 z) : (s0 p + wl z) % 18446744073709551616 = s0 (p + z) ∧
    (s1 p + wh z % 18446744073709551616 + (s0 p + wl z) / 18446744073709551616) % 18446744073709551616 = s1 (p + z) ∧
    (s2 p + wh z / 9223372036854775808 % 18446744073709551616 + (s1 p + wh z % 18446744073709551616 + (s0 p + wl z) / 18446744073709551616) / 18446744073709551616) % 18446744073709551616 = s2 (p + z) := by
  unfold I128 at hz
  have hdd : ∀ x : Int, x / 340282366920938463463374607431768211456 = x / 18446744073709551616 / 18446744073709551616 := fun x => by omega
  have e1 : (p + z) / 18446744073709551616 = p / 18446744073709551616 + z / 18446744073709551616 + (p % 18446744073709551616 + z % 18446744073709551616) / 18446744073709551616 := by omega
  have hn : z / 18446744073709551616 / 9223372036854775808 = z / 18446744073709551616 / 18446744073709551616 := by omega
  unfold s0 s1 s2 wh wl
  rw [hdd p, hdd (p + z), e1, hn]
  have hc : 0 ≤ (p % 18446744073709551616 + z % 18446744073709551616) / 18446744073709551616 ∧ (p % 18446744073709551616 + z % 18446744073709551616) / 18446744073709551616 ≤ 1 := by omega
  have e0 : (p % 18446744073709551616 + z % 18446744073709551616) % 18446744073709551616 = (p + z) % 18446744073709551616 := by omega
  generalize (p % 18446744073709551616 + z % 18446744073709551616) / 18446744073709551616 = o at *
  generalize p / 18446744073709551616 = c at *
  generalize z / 18446744073709551616 = l at *
  refine ⟨e0, by omega, ?_⟩
  have e2 : (c + l + o) / 18446744073709551616 = c / 18446744073709551616 + l / 18446744073709551616 + (c % 18446744073709551616 + l % 18446744073709551616 + o) / 18446744073709551616 := by omega
  rw [e2]
  omega
theorem s_in {p : Int} (h : I128 p) : s2 p = (s1 p - (if 9223372036854775808 ≤ s1 p then 18446744073709551616 else 0)) / 9223372036854775808 % 18446744073709551616 := by
  unfold I128 at h
  unfold s1 s2
  split <;> omega
theorem s_out {p : Int} (hb : -(1048576 * 170141183460469231731687303715884105728) ≤ p ∧ p ≤ 1048576 * 170141183460469231731687303715884105728) (h : ¬ I128 p) : s2 p ≠ (s1 p - (if 9223372036854775808 ≤ s1 p then 18446744073709551616 else 0)) / 9223372036854775808 % 18446744073709551616 := by
  unfold I128 at h
  unfold s1 s2
  have hdd : ∀ x : Int, x / 340282366920938463463374607431768211456 = x / 18446744073709551616 / 18446744073709551616 := fun x => by omega
  rw [hdd p]
  split <;> omega
theorem sum_bd : ∀ (zs : List Int), (∀ z ∈ zs, I128 z) → zs.length ≤ 1048576 → -(1048576 * 170141183460469231731687303715884105728) ≤ zs.sum ∧ zs.sum ≤ 1048576 * 170141183460469231731687303715884105728 := by
  have key : ∀ (zs : List Int), (∀ z ∈ zs, I128 z) → -((zs.length : Int) * 170141183460469231731687303715884105728) ≤ zs.sum ∧ zs.sum ≤ (zs.length : Int) * 170141183460469231731687303715884105728 := by
    intro zs
    induction zs with
    | nil => intro _; simp
    | cons z zs ih =>
      intro h
      have h1 := h z (by simp)
      have h2 := ih (fun y hy => h y (by simp [hy]))
      unfold I128 at h1
      simp only [List.sum_cons, List.length_cons]
      omega
  intro zs h hn
  have := key zs h
  omega
set_option maxHeartbeats 2000000 in
theorem sum_calls (v : Value) (zs : List Int) (F : Nat → Prop) (w : World) (h : RowK w F wc 2 v zs) (hz : ∀ z ∈ zs, I128 z) (hn : zs.length ≤ 1048576) :
    Calls Try.prog 84 #[v] w fun e w' => e = .returned (.tuple #[wide (wres zs.sum).1, .int .i64 (wres zs.sum).2]) ∧ Upd [] w w' := by
  obtain ⟨A, c, rfl, hlc, hcm, hA⟩ := h.shape
  have HR := Lib.hid h
  have HZ := Lib.hid hz
  clear h hz hA
  go_enter Try.func84, Try.ntmps84
  go_wp2
  go_loopw [10] (fun i wr => ∃ k : Nat, k ≤ zs.length ∧ i = .int .i64 k ∧ HB wr w.heap.size 47 [.int .i64 0, .int .u64 0] ∧ HB wr (w.heap.size + 1) 173 [.int .u64 (s0 (zs.take k).sum), .int .u64 (s1 (zs.take k).sum), .int .u64 (s2 (zs.take k).sum)] ∧ Upd [] w wr) (fun i _ => zs.length - (intOf i).toNat)
  case atStart => exact ⟨0, Nat.zero_le _, rfl, (HB.new w _ [.int .i64 0, .int .u64 0]).alloc _, HB.new1 w _ _ [.int .u64 0, .int .u64 0, .int .u64 0], ((Upd.refl _ _).alloc _).alloc _⟩
  case round =>
    obtain ⟨k, hk, rfl, hr, hs, hU⟩ := hrel
    have HRS := Lib.hid hr
    have HS := Lib.hid hs
    have HU := Lib.hid hU
    have g0 := hs.cell (j := 0) rfl
    have g1 := hs.cell (j := 1) rfl
    have g2 := hs.cell (j := 2) rfl
    have gf0 := hs.free 0
    have gf1 := hs.free 1
    have gf2 := hs.free 2
    have hlt := hs.lt
    clear hr hs hU
    by_cases hlt2 : k < zs.length
    · obtain ⟨z, hzk⟩ : ∃ z, zs[k]? = some z := ⟨zs[k], List.getElem?_eq_getElem hlt2⟩
      have iz := HZ.out z (List.mem_of_getElem? hzk)
      have hst := s_step (zs.take k).sum z iz
      have hsum : (zs.take (k + 1)).sum = (zs.take k).sum + z := by rw [List.take_add_one, hzk]; simp
      rw [← hsum] at hst
      have u0 : 0 ≤ s0 (zs.take k).sum := by unfold s0; omega
      have u1 : 0 ≤ s1 (zs.take k).sum := by unfold s1; omega
      have u2 : 0 ≤ s2 (zs.take k).sum := by unfold s2; omega
      have ul := wl_u z
      unfold U64 at ul
      obtain ⟨b, o, rfl, _, hc⟩ := HR.out.at_ hzk
      have x0 := HU.out.cell (hc 0 _ rfl) (by simp)
      have x1 := HU.out.cell (hc 1 _ rfl) (by simp)
      rw [Nat.add_zero] at x0
      have v0 : s0 (zs.take k).sum < 18446744073709551616 := by unfold s0; omega
      have v1 : s1 (zs.take k).sum < 18446744073709551616 := by unfold s1; omega
      generalize s0 (zs.take k).sum = a0 at *
      generalize s1 (zs.take k).sum = a1 at *
      generalize s2 (zs.take k).sum = a2 at *
      have iw := wh_i iz
      unfold I64 at iw
      generalize wh z = zh at *
      generalize wl z = zl at *
      obtain ⟨t0, t1, t2⟩ := hst
      have hw1 : IntKind.u64.wrap zh = zh % 18446744073709551616 := wrapU
      have hw2 : IntKind.u64.wrap (zh / 9223372036854775808) = zh / 9223372036854775808 % 18446744073709551616 := wrapU
      have q1 := add64z a0 zl u0 ul.1
      obtain ⟨c0, hc0⟩ : ∃ c0, c0 = (a0 + zl) / 18446744073709551616 := ⟨_, rfl⟩
      rw [t0, ← hc0] at q1
      rw [← hc0] at t1 t2
      have q2 := add64 a1 (zh % 18446744073709551616) c0 u1 (by omega) (by omega) (by omega)
      obtain ⟨c1, hc1⟩ : ∃ c1, c1 = (a1 + zh % 18446744073709551616 + c0) / 18446744073709551616 := ⟨_, rfl⟩
      rw [t1, ← hc1] at q2
      rw [← hc1] at t2
      have q3 := add64 a2 (zh / 9223372036854775808 % 18446744073709551616) c1 u2 (by omega) (by omega) (by omega)
      rw [t2] at q3
      clear t0 t1 t2 hc0 hc1 hc hsum
      go_wp2_with (first | simp only [q1] | simp only [q2] | simp only [q3])
      go_roundw
      case rel =>
        refine ⟨k + 1, by omega, by go_num, (((HRS.out.setNe (by simp) _).setNe (by simp) _).setNe (by simp) _).alloc _, ?_, (((HU.out.setCell (.inr (by simp)) _).setCell (.inr (by simp)) _).setCell (.inr (by simp)) _).alloc _⟩
        exact (((HS.out.set 0 _).set 1 _).set 2 _).alloc _
      case measure => simp [intOf]; omega
    · have hall : zs.take k = zs := List.take_of_length_le (by omega)
      rw [hall] at g0 g1 g2
      have hbd : -(1048576 * 170141183460469231731687303715884105728) ≤ zs.sum ∧ zs.sum ≤ 1048576 * 170141183460469231731687303715884105728 := sum_bd zs HZ.out hn
      have d1 : IntKind.i64.wrap (s1 zs.sum) = s1 zs.sum - (if 9223372036854775808 ≤ s1 zs.sum then 18446744073709551616 else 0) := by
        rw [wrapI (by unfold s1 U64; omega)]
        split <;> split <;> omega
      by_cases hi : I128 zs.sum
      · have e1 := s_in hi
        have e2 : (s1 zs.sum - (if 9223372036854775808 ≤ s1 zs.sum then 18446744073709551616 else 0)) * 18446744073709551616 + s0 zs.sum = zs.sum := by
          unfold I128 at hi
          unfold s1 s0
          split <;> omega
        obtain ⟨d, hd⟩ : ∃ d, d = (s1 zs.sum - (if 9223372036854775808 ≤ s1 zs.sum then 18446744073709551616 else 0)) := ⟨_, rfl⟩
        rw [← hd] at d1 e1 e2
        have hw2 : IntKind.u64.wrap (d / 9223372036854775808) = s2 zs.sum := by rw [wrapU, e1]
        have HWR := Lib.hid (wres_in hi)
        have hwd := wide_of e2 (by unfold s0 U64; omega)
        have HWD := Lib.hid hwd
        clear e1 e2 hd hwd hi hbd hall
        generalize s0 zs.sum = a0 at *
        generalize s1 zs.sum = a1 at *
        generalize s2 zs.sum = a2 at *
        have y0 := HRS.out.cell (j := 0) rfl
        have y1 := HRS.out.cell (j := 1) rfl
        have yf0 := HRS.out.free 0
        have yf1 := HRS.out.free 1
        go_wp2
        have hz := ((HRS.out.set 0 (.int .i64 d)).set 1 (.int .u64 a0))
        have k0 := hz.cell (j := 0) rfl
        have k1 := hz.cell (j := 1) rfl
        refine bodyPost_ret (v := .tuple #[.agg #[.int .i64 d, .int .u64 a0], .int .i64 0]) ?_ rfl ⟨by rw [HWR.out, HWD.out], (HU.out.setCell (.inr (by simp)) _).setCell (.inr (by simp)) _⟩
        simp [results, Try.f84, go_sem, k0, k1]
      · have e1 := s_out hbd hi
        obtain ⟨d, hd⟩ : ∃ d, d = (s1 zs.sum - (if 9223372036854775808 ≤ s1 zs.sum then 18446744073709551616 else 0)) := ⟨_, rfl⟩
        rw [← hd] at d1 e1
        obtain ⟨e, he⟩ : ∃ e, e = IntKind.u64.wrap (d / 9223372036854775808) := ⟨_, rfl⟩
        have hw2 := he.symm
        rw [wrapU] at he
        rw [← he] at e1
        have e3 : (s2 zs.sum == e) = false := by simpa using e1
        have HWR := Lib.hid (wres_out hi)
        clear e1 hd he hi hbd hall
        generalize s0 zs.sum = a0 at *
        generalize s1 zs.sum = a1 at *
        generalize s2 zs.sum = a2 at *
        have y0 := HRS.out.cell (j := 0) rfl
        have y1 := HRS.out.cell (j := 1) rfl
        have yf0 := HRS.out.free 0
        have yf1 := HRS.out.free 1
        go_wp2
        have hz := ((HRS.out.set 0 (.int .i64 0)).set 1 (.int .u64 0))
        have k0 := hz.cell (j := 0) rfl
        have k1 := hz.cell (j := 1) rfl
        refine bodyPost_ret (v := .tuple #[wide 0, .int .i64 10]) ?_ rfl ⟨by rw [HWR.out], (HU.out.setCell (.inr (by simp)) _).setCell (.inr (by simp)) _⟩
        rw [wide0]
        simp [results, Try.f84, go_sem, k0, k1]
end Go.Proofs.Ytdjpcinibgbglaa
