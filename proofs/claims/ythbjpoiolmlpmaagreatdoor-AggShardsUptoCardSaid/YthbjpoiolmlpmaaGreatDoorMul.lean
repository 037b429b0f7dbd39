/- Package wide: Mul. -/
import Derived.Test.YthbjpoiolmlpmaaGreatDoorWideL
import Derived.Test.YthbjpoiolmlpmaaGreatDoorKern
set_option linter.unusedVariables false
set_option linter.unusedSimpArgs false
namespace Go.Proofs.YthbjpoiolmlpmaaGreatDoor
open Go.RowKit
/-- What a region that reads two numbers keeps: their blocks, and the result's. -/
structure Two (w : World) (a b : Int) (W : World) : Prop where
  l : HB W w.heap.size 39 [.int .i64 (wh a), .int .u64 (wl a)]
  r : HB W (w.heap.size + 1) 39 [.int .i64 (wh b), .int .u64 (wl b)]
  z : HB W (w.heap.size + 2) 39 [.int .i64 0, .int .u64 0]
  u : Upd [] w W
theorem Two.upd {w W W' : World} {a b : Int} (h : Two w a b W) (hU : Upd [] W W') : Two w a b W' := ⟨h.l.upd hU (by simp), h.r.upd hU (by simp), h.z.upd hU (by simp), h.u.then hU⟩
theorem Two.drew {w W : World} {a b : Int} (h : Two w a b W) : Two w a b W.drew := h.upd ((Upd.refl _ _).drew)
theorem Two.alloc {w W : World} {a b : Int} (h : Two w a b W) (o : Obj) : Two w a b (W.alloc o) := h.upd ((Upd.refl _ _).alloc o)
theorem Two.lt {w W : World} {a b : Int} (h : Two w a b W) : w.heap.size + 2 < W.heap.size := h.z.lt
theorem Two.set {w W : World} {a b : Int} (h : Two w a b W) {p : Addr} (hp : w.heap.size + 2 < p.block) (v : Value) : Two w a b (W.setCell p v) :=
  ⟨h.l.setNe (by omega) v, h.r.setNe (by omega) v, h.z.setNe (by omega) v, h.u.setCell (.inr (by omega)) v⟩
@[reducible] def TwoS (w : World) (a b : Int) (W : World) : Prop :=
  W.cell? ⟨w.heap.size, 0, none⟩ = some (.int .i64 (wh a)) ∧ W.cell? ⟨w.heap.size, 1, none⟩ = some (.int .u64 (wl a)) ∧ W.cell? ⟨w.heap.size + 1, 0, none⟩ = some (.int .i64 (wh b)) ∧ W.cell? ⟨w.heap.size + 1, 1, none⟩ = some (.int .u64 (wl b)) ∧ Two w a b W
theorem Two.s {w W : World} {a b : Int} (h : Two w a b W) : TwoS w a b W := ⟨h.l.cell (j := 0) rfl, h.l.cell (j := 1) rfl, h.r.cell (j := 0) rfl, h.r.cell (j := 1) rfl, h⟩
theorem TwoS.t {w W : World} {a b : Int} (h : TwoS w a b W) : Two w a b W := h.2.2.2.2
theorem TwoS.upd {w W W' : World} {a b : Int} (h : TwoS w a b W) (hU : Upd [] W W') : TwoS w a b W' := (h.t.upd hU).s
theorem TwoS.drew {w W : World} {a b : Int} (h : TwoS w a b W) : TwoS w a b W.drew := h.t.drew.s
theorem TwoS.alloc {w W : World} {a b : Int} (h : TwoS w a b W) (o : Obj) : TwoS w a b (W.alloc o) := (h.t.alloc o).s
theorem Two.start (w : World) (a b : Int) : Two w a b (((w.alloc (.cells #[.int .i64 (wh a), .int .u64 (wl a)] 39)).alloc (.cells #[.int .i64 (wh b), .int .u64 (wl b)] 39)).alloc (.cells #[.int .i64 0, .int .u64 0] 39)) := by
  refine ⟨((HB.new _ _ _).alloc _).alloc _, (HB.new1 _ _ _ _).alloc _, ?_, (((Upd.refl _ _).alloc _).alloc _).alloc _⟩
  have := HB.new ((w.alloc (.cells #[.int .i64 (wh a), .int .u64 (wl a)] 39)).alloc (.cells #[.int .i64 (wh b), .int .u64 (wl b)] 39)) 39 [.int .i64 0, .int .u64 0]
  simpa using this


abbrev am (a : Int) : Value := .agg #[.int .u64 (wl a.natAbs), .int .u64 (wh a.natAbs)]
/-- x points to limbs of its own; when 'done' they are these. -/
def Lim (w W : World) (x : Value) (done : Bool) (v0 v1 : Int) : Prop :=
  ∃ p c0 c1, x = .pointer (some ⟨p, 0, none⟩) ∧ w.heap.size + 2 < p ∧ HB W p 145 [.int .u64 c0, .int .u64 c1] ∧ (done = true → c0 = v0 ∧ c1 = v1)
theorem Lim.upd {w W W' : World} {x : Value} {d : Bool} {v0 v1 : Int} (h : Lim w W x d v0 v1) (hU : Upd [] W W') : Lim w W' x d v0 v1 := by
  obtain ⟨p, c0, c1, q1, q2, q3, q4⟩ := h
  exact ⟨p, c0, c1, q1, q2, q3.upd hU (by simp), q4⟩
theorem Lim.set {w W : World} {x : Value} {d : Bool} {v0 v1 : Int} (h : Lim w W x d v0 v1) {p : Nat} {o : Nat} (hp : x ≠ .pointer (some ⟨p, 0, none⟩)) (u : Value) : Lim w (W.setCell ⟨p, o, none⟩ u) x d v0 v1 := by
  obtain ⟨q, c0, c1, rfl, q2, q3, q4⟩ := h
  exact ⟨q, c0, c1, rfl, q2, q3.setNe (fun e => hp (by simp at e; rw [e])) u, q4⟩
/-- Region 1 of Mul: what stands when the operations of D are done. -/
def MulI (w : World) (a b : Int) (D : Nat → Bool) (A : Act) (W : World) : Prop :=
  ∃ x6 x7 x14 x15 x16 x17 : Value, A = { tmps := #[wide a, wide b, .pointer (some ⟨w.heap.size, 0, none⟩), .pointer (some ⟨w.heap.size + 1, 0, none⟩), .pointer (some ⟨w.heap.size + 2, 0, none⟩), .int .i64 0, x6, x7, undef, undef, undef, undef, undef, undef, x14, x15, x16, x17, undef, undef, undef, undef, undef, undef, undef, undef, undef, undef, undef, undef, undef, undef, undef, undef, undef, undef, undef, undef, undef, undef, undef, undef, undef, undef, undef, undef, undef, undef, undef, undef, undef, undef, undef, undef, undef, undef, undef, undef, undef, undef, undef, undef, undef, undef, undef, undef, undef, undef, undef, undef, undef, undef, undef, undef], defers := [] } ∧ Two w a b W ∧
    (D 0 = true → x14 = wide a) ∧ (D 1 = true → x15 = am a) ∧ (D 2 = true → x16 = wide b) ∧ (D 3 = true → x17 = am b) ∧
    (D 4 = true → Lim w W x6 (D 6) (wl a.natAbs) (wh a.natAbs)) ∧ (D 5 = true → Lim w W x7 (D 7) (wl b.natAbs) (wh b.natAbs)) ∧
    (D 4 = true → D 5 = true → x6 ≠ x7) ∧ (D 6 = true → D 4 = true) ∧ (D 7 = true → D 5 = true)

set_option maxRecDepth 10000 in
set_option maxHeartbeats 2000000 in
theorem mulRegion_step (w : World) (a b : Int) (ha : I128 a) (hb : I128 b) : True := trivial
set_option maxRecDepth 10000 in
set_option maxHeartbeats 4000000 in
theorem mul_calls (a b : Int) (ha : I128 a) (hb : I128 b) (w : World) : Calls Tryz.prog 53 #[wide a, wide b] w fun e w' => e = .returned (.tuple #[wide (wres (a * b)).1, .int .i64 (wres (a * b)).2]) ∧ Upd [] w w' := by
  go_enter Tryz.func53, Tryz.ntmps53
  go_wp2
  obtain ⟨W0, hW0⟩ : ∃ W0, W0 = ((w.alloc (.cells #[.int .i64 (wh a), .int .u64 (wl a)] 39)).alloc (.cells #[.int .i64 (wh b), .int .u64 (wl b)] 39)).alloc (.cells #[.int .i64 0, .int .u64 0] 39) := ⟨_, rfl⟩
  have hS : Two w a b W0 := hW0 ▸ Two.start w a b
  rw [← hW0]
  clear hW0
  refine region_inv (by kernel_rfl) (by kernel_rfl) (MulI w a b) ⟨_, _, _, _, _, _, rfl, hS.drew, (fun h => by cases h), (fun h => by cases h), (fun h => by cases h), (fun h => by cases h), (fun h => by cases h), (fun h => by cases h), (fun h => by cases h), (fun h => by cases h), (fun h => by cases h)⟩ ?_ ?_
  · rintro D A W i o ⟨x6, x7, x14, x15, x16, x17, rfl, hT, h0, h1, h2, h3, h4, h5, h45, h64, h75⟩ ho hD hdep
    have hi : i < 8 := (Array.getElem?_eq_some_iff.1 ho).1
    match i with
    | 0 =>
      refine wpOp_of_list ho ?_
      obtain rfl := Option.some.inj ho
      have y0 := hT.l.cell (j := 0) rfl
      have y1 := hT.l.cell (j := 1) rfl
      go_wp2
      exact ⟨_, _, _, _, _, _, rfl, hT, (fun _ => rfl), (by simpa using h1), (by simpa using h2), (by simpa using h3), (by simpa using h4), (by simpa using h5), (by simpa using h45), (by simpa using h64), (by simpa using h75)⟩
    | 1 =>
      refine wpOp_of_list ho ?_
      obtain rfl := Option.some.inj ho
      obtain rfl := h0 (hdep ⟨0, .data⟩ (by simp) rfl)
      go_wp2_with fail
      refine (amount_calls a ha W).mono ?_
      rintro e w1 ⟨rfl, hU⟩
      go_wp2
      exact ⟨_, _, _, _, _, _, rfl, hT.upd hU, (by simp), (fun _ => rfl), (by simpa using h2), (by simpa using h3), (by simpa using fun h => (h4 h).upd hU), (by simpa using fun h => (h5 h).upd hU), (by simpa using h45), (by simpa using h64), (by simpa using h75)⟩
    | 2 =>
      refine wpOp_of_list ho ?_
      obtain rfl := Option.some.inj ho
      have y0 := hT.r.cell (j := 0) rfl
      have y1 := hT.r.cell (j := 1) rfl
      go_wp2
      exact ⟨_, _, _, _, _, _, rfl, hT, (by simpa using h0), (by simpa using h1), (fun _ => rfl), (by simpa using h3), (by simpa using h4), (by simpa using h5), (by simpa using h45), (by simpa using h64), (by simpa using h75)⟩
    | 3 =>
      refine wpOp_of_list ho ?_
      obtain rfl := Option.some.inj ho
      obtain rfl := h2 (hdep ⟨2, .data⟩ (by simp) rfl)
      go_wp2_with fail
      refine (amount_calls b hb W).mono ?_
      rintro e w1 ⟨rfl, hU⟩
      go_wp2
      exact ⟨_, _, _, _, _, _, rfl, hT.upd hU, (by simpa using h0), (by simpa using h1), (by simp), (fun _ => rfl), (by simpa using fun h => (h4 h).upd hU), (by simpa using fun h => (h5 h).upd hU), (by simpa using h45), (by simpa using h64), (by simpa using h75)⟩
    | 4 =>
      refine wpOp_of_list ho ?_
      obtain rfl := Option.some.inj ho
      go_wp2
      have hU : Upd [] W (W.alloc (.cells #[.int .u64 0, .int .u64 0] 145)) := (Upd.refl _ _).alloc _
      have h6 : D 6 = false := by
        rcases Bool.eq_false_or_eq_true (D 6) with h | h
        · rw [h64 h] at hD; cases hD
        · exact h
      refine ⟨_, _, _, _, _, _, rfl, hT.alloc _, (by simpa using h0), (by simpa using h1), (by simpa using h2), (by simpa using h3), (fun _ => ⟨W.heap.size, 0, 0, rfl, hT.lt, HB.new W _ [.int .u64 0, .int .u64 0], by simp [h6]⟩), (by simpa using fun h => (h5 h).upd hU), ?_, (by simp), (by simpa using h75)⟩
      intro _ h e
      obtain ⟨p, c0, c1, rfl, q2, q3, q4⟩ := h5 (by simpa using h)
      have := q3.lt
      first | (simp at e; done) | (simp at e; omega)
    | 5 =>
      refine wpOp_of_list ho ?_
      obtain rfl := Option.some.inj ho
      go_wp2
      have hU : Upd [] W (W.alloc (.cells #[.int .u64 0, .int .u64 0] 145)) := (Upd.refl _ _).alloc _
      have h7 : D 7 = false := by
        rcases Bool.eq_false_or_eq_true (D 7) with h | h
        · rw [h75 h] at hD; cases hD
        · exact h
      refine ⟨_, _, _, _, _, _, rfl, hT.alloc _, (by simpa using h0), (by simpa using h1), (by simpa using h2), (by simpa using h3), (by simpa using fun h => (h4 h).upd hU), (fun _ => ⟨W.heap.size, 0, 0, rfl, hT.lt, HB.new W _ [.int .u64 0, .int .u64 0], by simp [h7]⟩), ?_, (by simpa using h64), (by simp)⟩
      intro h _ e
      obtain ⟨p, c0, c1, rfl, q2, q3, q4⟩ := h4 (by simpa using h)
      have := q3.lt
      first | (simp at e; done) | (simp at e; omega)
    | 6 =>
      refine wpOp_of_list ho ?_
      obtain rfl := Option.some.inj ho
      have d4 := hdep ⟨4, .data⟩ (by simp) rfl
      obtain rfl := h1 (hdep ⟨1, .data⟩ (by simp) rfl)
      obtain ⟨p, c0, c1, rfl, q2, q3, q4⟩ := h4 d4
      have y0 := q3.cell (j := 0) rfl
      have y1 := q3.cell (j := 1) rfl
      have f0 := q3.free 0
      have f1 := q3.free 1
      go_wp2
      exact ⟨_, _, _, _, _, _, rfl, (hT.set (p := ⟨p, 0, none⟩) q2 _).set (p := ⟨p, 1, none⟩) q2 _, (by simpa using h0), (by simp), (by simpa using h2), (by simpa using h3), (fun _ => ⟨p, _, _, rfl, q2, (q3.set 0 (.int .u64 (wl a.natAbs))).set 1 (.int .u64 (wh a.natAbs)), fun _ => ⟨rfl, rfl⟩⟩), (by simpa using fun h => (((h5 h).set (p := p) (o := 0) (fun e => h45 d4 h e.symm) (.int .u64 (wl a.natAbs))).set (p := p) (o := 1) (fun e => h45 d4 h e.symm) (.int .u64 (wh a.natAbs)))), (by simpa using h45), (by simp [d4]), (by simpa using h75)⟩
    | 7 =>
      refine wpOp_of_list ho ?_
      obtain rfl := Option.some.inj ho
      have d5 := hdep ⟨5, .data⟩ (by simp) rfl
      obtain rfl := h3 (hdep ⟨3, .data⟩ (by simp) rfl)
      obtain ⟨p, c0, c1, rfl, q2, q3, q4⟩ := h5 d5
      have y0 := q3.cell (j := 0) rfl
      have y1 := q3.cell (j := 1) rfl
      have f0 := q3.free 0
      have f1 := q3.free 1
      go_wp2
      exact ⟨_, _, _, _, _, _, rfl, (hT.set (p := ⟨p, 0, none⟩) q2 _).set (p := ⟨p, 1, none⟩) q2 _, (by simpa using h0), (by simpa using h1), (by simpa using h2), (by simp), (by simpa using fun h => (((h4 h).set (p := p) (o := 0) (fun e => h45 h d5 e) (.int .u64 (wl b.natAbs))).set (p := p) (o := 1) (fun e => h45 h d5 e) (.int .u64 (wh b.natAbs)))), (fun _ => ⟨p, _, _, rfl, q2, (q3.set 0 (.int .u64 (wl b.natAbs))).set 1 (.int .u64 (wh b.natAbs)), fun _ => ⟨rfl, rfl⟩⟩), (by simpa using h45), (by simpa using h64), (by simp [d5])⟩
    | i + 8 => omega
  · rintro D A W ⟨x6, x7, x14, x15, x16, x17, rfl, hT, h0, h1, h2, h3, h4, h5, h45, h64, h75⟩ hall
    obtain ⟨p, c0, c1, rfl, hp2, hp3, hp4⟩ := h4 (hall 4 (by decide))
    obtain ⟨q, d0, d1, rfl, hq2, hq3, hq4⟩ := h5 (hall 5 (by decide))
    obtain ⟨rfl, rfl⟩ := hp4 (hall 6 (by decide))
    obtain ⟨rfl, rfl⟩ := hq4 (hall 7 (by decide))
    have hpq : p ≠ q := fun e => h45 (hall 4 (by decide)) (hall 5 (by decide)) (by rw [e])
    clear h0 h1 h2 h3 h4 h5 h45 h64 h75 hall hp4 hq4 hS
    have eM := whl (a.natAbs : Int)
    have eN := whl (b.natAbs : Int)
    have bM : 0 ≤ wh (a.natAbs : Int) := by unfold wh; omega
    have bN : 0 ≤ wh (b.natAbs : Int) := by unfold wh; omega
    have cM : wh (a.natAbs : Int) ≤ 18446744073709551615 := by unfold wh; unfold I128 at ha; omega
    have cN : wh (b.natAbs : Int) ≤ 18446744073709551615 := by unfold wh; unfold I128 at hb; omega
    have uM := wl_u (a.natAbs : Int)
    have uN := wl_u (b.natAbs : Int)
    have hab : ((a * b).natAbs : Int) = (a.natAbs : Int) * b.natAbs := by rw [Int.natAbs_mul]; simp
    have hsg : a * b = if (decide (a < 0) != decide (b < 0)) = true then -((a * b).natAbs : Int) else ((a * b).natAbs : Int) := by
      by_cases k : a < 0 <;> by_cases k' : b < 0
      · have := Int.mul_pos_of_neg_of_neg k k'; simp [k, k']; omega
      · have : a * b ≤ 0 := Int.mul_nonpos_of_nonpos_of_nonneg (by omega) (by omega)
        simp [k, k']
        omega
      · have : a * b ≤ 0 := Int.mul_nonpos_of_nonneg_of_nonpos (by omega) (by omega)
        simp [k, k']
        omega
      · have := Int.mul_nonneg (a := a) (b := b) (by omega) (by omega); simp [k, k']; omega
    have sa : a < 0 ↔ wh a < 0 := by unfold wh; omega
    have sb : b < 0 ↔ wh b < 0 := by unfold wh; omega
    rw [show decide (a < 0) = decide (wh a < 0) by simp [sa], show decide (b < 0) = decide (wh b < 0) by simp [sb]] at hsg
    obtain ⟨X, hX⟩ : ∃ X, X = ((a * b).natAbs : Int) := ⟨_, rfl⟩
    rw [← hX] at hab hsg
    have HSG := Lib.hid hsg
    clear hX sa sb hsg
    have HT := Lib.hid hT
    have HP := Lib.hid hp3
    have HQ := Lib.hid hq3
    have pm0 := hp3.cell (j := 0) rfl
    have pm1 := hp3.cell (j := 1) rfl
    have pf0 := hp3.free 0
    have pf1 := hp3.free 1
    have qm0 := hq3.cell (j := 0) rfl
    have qm1 := hq3.cell (j := 1) rfl
    have qf0 := hq3.free 0
    have qf1 := hq3.free 1
    have l0 := hT.l.cell (j := 0) rfl
    have r0 := hT.r.cell (j := 0) rfl
    have z0 := hT.z.cell (j := 0) rfl
    have z1 := hT.z.cell (j := 1) rfl
    have zf0 := hT.z.free 0
    have zf1 := hT.z.free 1
    clear hT hp3 hq3
    generalize (a.natAbs : Int) = M at *
    generalize (b.natAbs : Int) = N at *
    generalize wh M = m1 at *
    generalize wl M = m0 at *
    generalize wh N = n1 at *
    generalize wl N = n0 at *
    unfold U64 at uM uN
    obtain ⟨ba, hba⟩ : ∃ ba, ba = decide (wh a < 0) := ⟨_, rfl⟩
    obtain ⟨bb, hbb⟩ : ∃ bb, bb = decide (wh b < 0) := ⟨_, rfl⟩
    rw [← hba, ← hbb] at HSG
    replace hba := hba.symm
    replace hbb := hbb.symm
    dsimp only
    have over : ∀ x : Int, (x = X ∨ x = -X) → 340282366920938463463374607431768211456 ≤ X → wres x = (0, 10) := fun x hx h => wres_out (by unfold I128; omega)
    by_cases hm : 0 < m1
    · by_cases hn : 0 < n1
      · have hbig : 340282366920938463463374607431768211456 ≤ X := by
          have := Int.mul_le_mul (a := 18446744073709551616) (b := 18446744073709551616) (c := M) (d := N) (by omega) (by omega) (by decide) (by omega)
          omega
        have HW := Lib.hid (over (a * b) (by rw [HSG.out]; split <;> simp) hbig)
        clear hbig over
        go_wp2
        have hz := ((HT.out.z.set 0 (.int .i64 0)).set 1 (.int .u64 0))
        have k0 := hz.cell (j := 0) rfl
        have k1 := hz.cell (j := 1) rfl
        refine bodyPost_ret (v := .tuple #[wide 0, .int .i64 10]) ?_ rfl ⟨by rw [HW.out], (HT.out.u.setCell (.inr (by simp)) _).setCell (.inr (by simp)) _⟩
        rw [wide0]
        simp [results, Tryz.f53, go_sem, k0, k1]
      · have e2 : decide (0 < n1) = false := by simpa using hn
        obtain rfl : n1 = 0 := by omega
        have e1 : decide (0 < m1) = true := by simpa using hm
        have XEQ : X = m1 * n0 * 18446744073709551616 + m0 * n0 := by rw [hab, ← eM, ← eN]; grind
        clear hm hn
        obtain ⟨hi, hhi⟩ : ∃ hi, hi = m0 * n0 / 18446744073709551616 := ⟨_, rfl⟩
        obtain ⟨lo, hlo⟩ : ∃ lo, lo = m0 * n0 % 18446744073709551616 := ⟨_, rfl⟩
        obtain ⟨ov, hov⟩ : ∃ ov, ov = m1 * n0 / 18446744073709551616 := ⟨_, rfl⟩
        obtain ⟨mo, hmo⟩ : ∃ mo, mo = m1 * n0 % 18446744073709551616 := ⟨_, rfl⟩
        have C1 := Lib.hid (fun Z => (mul64_calls m0 n0 (by unfold U64; omega) (by unfold U64; omega) Z).mono (R' := fun e w' => e = .returned (.tuple #[.int .u64 hi, .int .u64 lo]) ∧ w' = Z) (by rintro e w' ⟨rfl, rfl⟩; exact ⟨by rw [hhi, hlo], rfl⟩))
        have C2 := Lib.hid (fun Z => (mul64_calls m1 n0 (by unfold U64; omega) (by unfold U64; omega) Z).mono (R' := fun e w' => e = .returned (.tuple #[.int .u64 ov, .int .u64 mo]) ∧ w' = Z) (by rintro e w' ⟨rfl, rfl⟩; exact ⟨by rw [hov, hmo], rfl⟩))
        have p0 := prod_le (a := m0) (b := n0) (A := 18446744073709551615) (B := 18446744073709551615) (by omega) (by omega) (by omega) (by omega)
        have p1 := prod_le (a := m1) (b := n0) (A := 18446744073709551615) (B := 18446744073709551615) (by omega) (by omega) (by omega) (by omega)
        generalize m0 * n0 = P0 at *
        generalize m1 * n0 = P1 at *
        have q1 := add64z hi mo (by omega) (by omega)
        obtain ⟨sm, hsm⟩ : ∃ sm, sm = (hi + mo) % 18446744073709551616 := ⟨_, rfl⟩
        obtain ⟨ca, hca⟩ : ∃ ca, ca = (hi + mo) / 18446744073709551616 := ⟨_, rfl⟩
        rw [← hsm, ← hca] at q1
        rcases Bool.eq_false_or_eq_true (decide (0 < ov)) with g1 | g1
        · have HW := Lib.hid (over (a * b) (by rw [HSG.out]; split <;> simp) (by simp at g1; omega))
          clear hhi hlo hov hmo p0 p1 hsm hca XEQ over
          go_wp2_with fail
          refine (C1.out _).mono ?_
          rintro e w1 ⟨rfl, rfl⟩
          go_wp2_with fail
          refine (C2.out _).mono ?_
          rintro e w2 ⟨rfl, rfl⟩
          go_wp2_with (simp only [q1])
          have hz := ((HT.out.z.set 0 (.int .i64 0)).set 1 (.int .u64 0))
          have k0 := hz.cell (j := 0) rfl
          have k1 := hz.cell (j := 1) rfl
          refine bodyPost_ret (v := .tuple #[wide 0, .int .i64 10]) ?_ rfl ⟨by rw [HW.out], (HT.out.u.setCell (.inr (by simp)) _).setCell (.inr (by simp)) _⟩
          rw [wide0]
          simp [results, Tryz.f53, go_sem, k0, k1]
        · rcases Bool.eq_false_or_eq_true (decide (0 < ca)) with g2 | g2
          · have HW := Lib.hid (over (a * b) (by rw [HSG.out]; split <;> simp) (by simp at g1 g2; omega))
            clear hhi hlo hov hmo p0 p1 hsm hca XEQ over
            go_wp2_with fail
            refine (C1.out _).mono ?_
            rintro e w1 ⟨rfl, rfl⟩
            go_wp2_with fail
            refine (C2.out _).mono ?_
            rintro e w2 ⟨rfl, rfl⟩
            go_wp2_with (simp only [q1])
            have hz := ((HT.out.z.set 0 (.int .i64 0)).set 1 (.int .u64 0))
            have k0 := hz.cell (j := 0) rfl
            have k1 := hz.cell (j := 1) rfl
            refine bodyPost_ret (v := .tuple #[wide 0, .int .i64 10]) ?_ rfl ⟨by rw [HW.out], (HT.out.u.setCell (.inr (by simp)) _).setCell (.inr (by simp)) _⟩
            rw [wide0]
            simp [results, Tryz.f53, go_sem, k0, k1]
          · have kl : lo = wl X := by unfold wl; simp at g1 g2; omega
            have kh : sm = wh X := by unfold wh; simp at g1 g2; omega
            have SC := Lib.hid (signed_calls X (ba != bb) (by simp at g1 g2; omega) (by simp at g1 g2; omega))
            rw [← kl, ← kh] at SC
            rw [← HSG.out] at SC
            clear kl kh
            clear hhi hlo hov hmo p0 p1 hsm hca XEQ over
            go_wp2_with fail
            refine (C1.out _).mono ?_
            rintro e w1 ⟨rfl, rfl⟩
            go_wp2_with fail
            refine (C2.out _).mono ?_
            rintro e w2 ⟨rfl, rfl⟩
            go_wp2_with (first | simp only [q1] | fail)
            refine (SC.out _).mono ?_
            rintro e w3 ⟨rfl, hU3⟩
            have hz3 := HT.out.z.upd hU3 (by simp)
            have z30 := hz3.cell (j := 0) rfl
            have z31 := hz3.cell (j := 1) rfl
            have zf30 := hz3.free 0
            have zf31 := hz3.free 1
            have HU3 := Lib.hid (HT.out.u.then hU3)
            clear hU3
            go_wp2
            have hz := ((hz3.set 0 (.int .i64 (wh (wres (a * b)).1))).set 1 (.int .u64 (wl (wres (a * b)).1)))
            have k0 := hz.cell (j := 0) rfl
            have k1 := hz.cell (j := 1) rfl
            refine bodyPost_ret (v := .tuple #[wide (wres (a * b)).1, .int .i64 (wres (a * b)).2]) ?_ rfl ⟨rfl, (HU3.out.setCell (.inr (by simp)) _).setCell (.inr (by simp)) _⟩
            simp [results, Tryz.f53, go_sem, k0, k1]
    · have e1 : decide (0 < m1) = false := by simpa using hm
      obtain rfl : m1 = 0 := by omega
      by_cases hn : 0 < n1
      · have e2 : decide (0 < n1) = true := by simpa using hn
        have XEQ : X = n1 * m0 * 18446744073709551616 + n0 * m0 := by rw [hab, ← eM, ← eN]; grind
        clear hm hn
        go_wp2_with fail
        obtain ⟨Wc, hWc⟩ : ∃ Wc, Wc = ((((W.setCell ⟨p, 0, none⟩ (.int .u64 n0)).setCell ⟨p, 1, none⟩ (.int .u64 n1)).setCell ⟨q, 0, none⟩ (.int .u64 m0)).setCell ⟨q, 1, none⟩ (.int .u64 0)) := ⟨_, rfl⟩
        rw [← hWc]
        have hpc : HB Wc p 145 [.int .u64 n0, .int .u64 n1] := by rw [hWc]; exact ((((HP.out.set 0 (.int .u64 n0)).set 1 (.int .u64 n1)).setNe hpq _).setNe hpq _)
        have hqc : HB Wc q 145 [.int .u64 m0, .int .u64 0] := by rw [hWc]; exact ((((HQ.out.setNe (fun e => hpq e.symm) _).setNe (fun e => hpq e.symm) _).set 0 (.int .u64 m0)).set 1 (.int .u64 0))
        have HTc := Lib.hid (show Two w a b Wc from by rw [hWc]; exact (((HT.out.set (p := ⟨p, 0, none⟩) hp2 _).set (p := ⟨p, 1, none⟩) hp2 _).set (p := ⟨q, 0, none⟩) hq2 _).set (p := ⟨q, 1, none⟩) hq2 _)
        clear hWc pm0 pm1 pf0 pf1 qm0 qm1 qf0 qf1 l0 r0 z0 z1 zf0 zf1
        have pm0 := hpc.cell (j := 0) rfl
        have pm1 := hpc.cell (j := 1) rfl
        have qm0 := hqc.cell (j := 0) rfl
        have qm1 := hqc.cell (j := 1) rfl
        have l0 := HTc.out.l.cell (j := 0) rfl
        have r0 := HTc.out.r.cell (j := 0) rfl
        have z0 := HTc.out.z.cell (j := 0) rfl
        have z1 := HTc.out.z.cell (j := 1) rfl
        have zf0 := HTc.out.z.free 0
        have zf1 := HTc.out.z.free 1
        clear hpc hqc
        obtain ⟨hi, hhi⟩ : ∃ hi, hi = n0 * m0 / 18446744073709551616 := ⟨_, rfl⟩
        obtain ⟨lo, hlo⟩ : ∃ lo, lo = n0 * m0 % 18446744073709551616 := ⟨_, rfl⟩
        obtain ⟨ov, hov⟩ : ∃ ov, ov = n1 * m0 / 18446744073709551616 := ⟨_, rfl⟩
        obtain ⟨mo, hmo⟩ : ∃ mo, mo = n1 * m0 % 18446744073709551616 := ⟨_, rfl⟩
        have C1 := Lib.hid (fun Z => (mul64_calls n0 m0 (by unfold U64; omega) (by unfold U64; omega) Z).mono (R' := fun e w' => e = .returned (.tuple #[.int .u64 hi, .int .u64 lo]) ∧ w' = Z) (by rintro e w' ⟨rfl, rfl⟩; exact ⟨by rw [hhi, hlo], rfl⟩))
        have C2 := Lib.hid (fun Z => (mul64_calls n1 m0 (by unfold U64; omega) (by unfold U64; omega) Z).mono (R' := fun e w' => e = .returned (.tuple #[.int .u64 ov, .int .u64 mo]) ∧ w' = Z) (by rintro e w' ⟨rfl, rfl⟩; exact ⟨by rw [hov, hmo], rfl⟩))
        have p0 := prod_le (a := n0) (b := m0) (A := 18446744073709551615) (B := 18446744073709551615) (by omega) (by omega) (by omega) (by omega)
        have p1 := prod_le (a := n1) (b := m0) (A := 18446744073709551615) (B := 18446744073709551615) (by omega) (by omega) (by omega) (by omega)
        generalize n0 * m0 = P0 at *
        generalize n1 * m0 = P1 at *
        have q1 := add64z hi mo (by omega) (by omega)
        obtain ⟨sm, hsm⟩ : ∃ sm, sm = (hi + mo) % 18446744073709551616 := ⟨_, rfl⟩
        obtain ⟨ca, hca⟩ : ∃ ca, ca = (hi + mo) / 18446744073709551616 := ⟨_, rfl⟩
        rw [← hsm, ← hca] at q1
        rcases Bool.eq_false_or_eq_true (decide (0 < ov)) with g1 | g1
        · have HW := Lib.hid (over (a * b) (by rw [HSG.out]; split <;> simp) (by simp at g1; omega))
          clear hhi hlo hov hmo p0 p1 hsm hca XEQ over
          refine (C1.out _).mono ?_
          rintro e w1 ⟨rfl, rfl⟩
          go_wp2_with fail
          refine (C2.out _).mono ?_
          rintro e w2 ⟨rfl, rfl⟩
          go_wp2_with (simp only [q1])
          have hz := ((HTc.out.z.set 0 (.int .i64 0)).set 1 (.int .u64 0))
          have k0 := hz.cell (j := 0) rfl
          have k1 := hz.cell (j := 1) rfl
          refine bodyPost_ret (v := .tuple #[wide 0, .int .i64 10]) ?_ rfl ⟨by rw [HW.out], (HTc.out.u.setCell (.inr (by simp)) _).setCell (.inr (by simp)) _⟩
          rw [wide0]
          simp [results, Tryz.f53, go_sem, k0, k1]
        · rcases Bool.eq_false_or_eq_true (decide (0 < ca)) with g2 | g2
          · have HW := Lib.hid (over (a * b) (by rw [HSG.out]; split <;> simp) (by simp at g1 g2; omega))
            clear hhi hlo hov hmo p0 p1 hsm hca XEQ over
            refine (C1.out _).mono ?_
            rintro e w1 ⟨rfl, rfl⟩
            go_wp2_with fail
            refine (C2.out _).mono ?_
            rintro e w2 ⟨rfl, rfl⟩
            go_wp2_with (simp only [q1])
            have hz := ((HTc.out.z.set 0 (.int .i64 0)).set 1 (.int .u64 0))
            have k0 := hz.cell (j := 0) rfl
            have k1 := hz.cell (j := 1) rfl
            refine bodyPost_ret (v := .tuple #[wide 0, .int .i64 10]) ?_ rfl ⟨by rw [HW.out], (HTc.out.u.setCell (.inr (by simp)) _).setCell (.inr (by simp)) _⟩
            rw [wide0]
            simp [results, Tryz.f53, go_sem, k0, k1]
          · have kl : lo = wl X := by unfold wl; simp at g1 g2; omega
            have kh : sm = wh X := by unfold wh; simp at g1 g2; omega
            have SC := Lib.hid (signed_calls X (ba != bb) (by simp at g1 g2; omega) (by simp at g1 g2; omega))
            rw [← kl, ← kh] at SC
            rw [← HSG.out] at SC
            clear kl kh
            clear hhi hlo hov hmo p0 p1 hsm hca XEQ over
            refine (C1.out _).mono ?_
            rintro e w1 ⟨rfl, rfl⟩
            go_wp2_with fail
            refine (C2.out _).mono ?_
            rintro e w2 ⟨rfl, rfl⟩
            go_wp2_with (first | simp only [q1] | fail)
            refine (SC.out _).mono ?_
            rintro e w3 ⟨rfl, hU3⟩
            have hz3 := HTc.out.z.upd hU3 (by simp)
            have z30 := hz3.cell (j := 0) rfl
            have z31 := hz3.cell (j := 1) rfl
            have zf30 := hz3.free 0
            have zf31 := hz3.free 1
            have HU3 := Lib.hid (HTc.out.u.then hU3)
            clear hU3
            go_wp2
            have hz := ((hz3.set 0 (.int .i64 (wh (wres (a * b)).1))).set 1 (.int .u64 (wl (wres (a * b)).1)))
            have k0 := hz.cell (j := 0) rfl
            have k1 := hz.cell (j := 1) rfl
            refine bodyPost_ret (v := .tuple #[wide (wres (a * b)).1, .int .i64 (wres (a * b)).2]) ?_ rfl ⟨rfl, (HU3.out.setCell (.inr (by simp)) _).setCell (.inr (by simp)) _⟩
            simp [results, Tryz.f53, go_sem, k0, k1]
      · have e2 : decide (0 < n1) = false := by simpa using hn
        obtain rfl : n1 = 0 := by omega
        have XEQ : X = 0 * n0 * 18446744073709551616 + m0 * n0 := by rw [hab, ← eM, ← eN]; grind
        clear hm hn
        obtain ⟨hi, hhi⟩ : ∃ hi, hi = m0 * n0 / 18446744073709551616 := ⟨_, rfl⟩
        obtain ⟨lo, hlo⟩ : ∃ lo, lo = m0 * n0 % 18446744073709551616 := ⟨_, rfl⟩
        obtain ⟨ov, hov⟩ : ∃ ov, ov = 0 * n0 / 18446744073709551616 := ⟨_, rfl⟩
        obtain ⟨mo, hmo⟩ : ∃ mo, mo = 0 * n0 % 18446744073709551616 := ⟨_, rfl⟩
        have C1 := Lib.hid (fun Z => (mul64_calls m0 n0 (by unfold U64; omega) (by unfold U64; omega) Z).mono (R' := fun e w' => e = .returned (.tuple #[.int .u64 hi, .int .u64 lo]) ∧ w' = Z) (by rintro e w' ⟨rfl, rfl⟩; exact ⟨by rw [hhi, hlo], rfl⟩))
        have C2 := Lib.hid (fun Z => (mul64_calls 0 n0 (by unfold U64; omega) (by unfold U64; omega) Z).mono (R' := fun e w' => e = .returned (.tuple #[.int .u64 ov, .int .u64 mo]) ∧ w' = Z) (by rintro e w' ⟨rfl, rfl⟩; exact ⟨by rw [hov, hmo], rfl⟩))
        have p0 := prod_le (a := m0) (b := n0) (A := 18446744073709551615) (B := 18446744073709551615) (by omega) (by omega) (by omega) (by omega)
        have p1 := prod_le (a := 0) (b := n0) (A := 18446744073709551615) (B := 18446744073709551615) (by omega) (by omega) (by omega) (by omega)
        generalize m0 * n0 = P0 at *
        generalize 0 * n0 = P1 at *
        have q1 := add64z hi mo (by omega) (by omega)
        obtain ⟨sm, hsm⟩ : ∃ sm, sm = (hi + mo) % 18446744073709551616 := ⟨_, rfl⟩
        obtain ⟨ca, hca⟩ : ∃ ca, ca = (hi + mo) / 18446744073709551616 := ⟨_, rfl⟩
        rw [← hsm, ← hca] at q1
        rcases Bool.eq_false_or_eq_true (decide (0 < ov)) with g1 | g1
        · have HW := Lib.hid (over (a * b) (by rw [HSG.out]; split <;> simp) (by simp at g1; omega))
          clear hhi hlo hov hmo p0 p1 hsm hca XEQ over
          go_wp2_with fail
          refine (C1.out _).mono ?_
          rintro e w1 ⟨rfl, rfl⟩
          go_wp2_with fail
          refine (C2.out _).mono ?_
          rintro e w2 ⟨rfl, rfl⟩
          go_wp2_with (simp only [q1])
          have hz := ((HT.out.z.set 0 (.int .i64 0)).set 1 (.int .u64 0))
          have k0 := hz.cell (j := 0) rfl
          have k1 := hz.cell (j := 1) rfl
          refine bodyPost_ret (v := .tuple #[wide 0, .int .i64 10]) ?_ rfl ⟨by rw [HW.out], (HT.out.u.setCell (.inr (by simp)) _).setCell (.inr (by simp)) _⟩
          rw [wide0]
          simp [results, Tryz.f53, go_sem, k0, k1]
        · rcases Bool.eq_false_or_eq_true (decide (0 < ca)) with g2 | g2
          · have HW := Lib.hid (over (a * b) (by rw [HSG.out]; split <;> simp) (by simp at g1 g2; omega))
            clear hhi hlo hov hmo p0 p1 hsm hca XEQ over
            go_wp2_with fail
            refine (C1.out _).mono ?_
            rintro e w1 ⟨rfl, rfl⟩
            go_wp2_with fail
            refine (C2.out _).mono ?_
            rintro e w2 ⟨rfl, rfl⟩
            go_wp2_with (simp only [q1])
            have hz := ((HT.out.z.set 0 (.int .i64 0)).set 1 (.int .u64 0))
            have k0 := hz.cell (j := 0) rfl
            have k1 := hz.cell (j := 1) rfl
            refine bodyPost_ret (v := .tuple #[wide 0, .int .i64 10]) ?_ rfl ⟨by rw [HW.out], (HT.out.u.setCell (.inr (by simp)) _).setCell (.inr (by simp)) _⟩
            rw [wide0]
            simp [results, Tryz.f53, go_sem, k0, k1]
          · have kl : lo = wl X := by unfold wl; simp at g1 g2; omega
            have kh : sm = wh X := by unfold wh; simp at g1 g2; omega
            have SC := Lib.hid (signed_calls X (ba != bb) (by simp at g1 g2; omega) (by simp at g1 g2; omega))
            rw [← kl, ← kh] at SC
            rw [← HSG.out] at SC
            clear kl kh
            clear hhi hlo hov hmo p0 p1 hsm hca XEQ over
            go_wp2_with fail
            refine (C1.out _).mono ?_
            rintro e w1 ⟨rfl, rfl⟩
            go_wp2_with fail
            refine (C2.out _).mono ?_
            rintro e w2 ⟨rfl, rfl⟩
            go_wp2_with (first | simp only [q1] | fail)
            refine (SC.out _).mono ?_
            rintro e w3 ⟨rfl, hU3⟩
            have hz3 := HT.out.z.upd hU3 (by simp)
            have z30 := hz3.cell (j := 0) rfl
            have z31 := hz3.cell (j := 1) rfl
            have zf30 := hz3.free 0
            have zf31 := hz3.free 1
            have HU3 := Lib.hid (HT.out.u.then hU3)
            clear hU3
            go_wp2
            have hz := ((hz3.set 0 (.int .i64 (wh (wres (a * b)).1))).set 1 (.int .u64 (wl (wres (a * b)).1)))
            have k0 := hz.cell (j := 0) rfl
            have k1 := hz.cell (j := 1) rfl
            refine bodyPost_ret (v := .tuple #[wide (wres (a * b)).1, .int .i64 (wres (a * b)).2]) ?_ rfl ⟨rfl, (HU3.out.setCell (.inr (by simp)) _).setCell (.inr (by simp)) _⟩
            simp [results, Tryz.f53, go_sem, k0, k1]
end Go.Proofs.YthbjpoiolmlpmaaGreatDoor
