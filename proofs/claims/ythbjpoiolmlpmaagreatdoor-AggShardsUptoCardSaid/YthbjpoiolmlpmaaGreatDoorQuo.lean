/- Package wide: Quo. -/
import Derived.Test.YthbjpoiolmlpmaaGreatDoorDiv
import Derived.Test.YthbjpoiolmlpmaaGreatDoorMul
set_option linter.unusedVariables false
set_option linter.unusedSimpArgs false
namespace Go.Proofs.YthbjpoiolmlpmaaGreatDoor
open Go.RowKit
abbrev lmv (x : Nat) : Value := .agg #[.int .u64 (wl x), .int .u64 (wh x)]
/-- What the region that divides keeps: the arguments' blocks, and the results'. -/
structure Four (w : World) (a hb lb : Int) (W : World) : Prop where
  l : HB W w.heap.size 39 [.int .i64 (wh a), .int .u64 (wl a)]
  r : HB W (w.heap.size + 1) 39 [.int .i64 hb, .int .u64 lb]
  z : HB W (w.heap.size + 2) 39 [.int .i64 0, .int .u64 0]
  y : HB W (w.heap.size + 3) 39 [.int .i64 0, .int .u64 0]
  u : Upd [] w W
theorem Four.upd {w W W' : World} {a hb lb : Int} (h : Four w a hb lb W) (hU : Upd [] W W') : Four w a hb lb W' := ⟨h.l.upd hU (by simp), h.r.upd hU (by simp), h.z.upd hU (by simp), h.y.upd hU (by simp), h.u.then hU⟩
theorem Four.drew {w W : World} {a hb lb : Int} (h : Four w a hb lb W) : Four w a hb lb W.drew := h.upd ((Upd.refl _ _).drew)
theorem Four.alloc {w W : World} {a hb lb : Int} (h : Four w a hb lb W) (o : Obj) : Four w a hb lb (W.alloc o) := h.upd ((Upd.refl _ _).alloc o)
theorem Four.lt {w W : World} {a hb lb : Int} (h : Four w a hb lb W) : w.heap.size + 3 < W.heap.size := h.y.lt
theorem Four.set {w W : World} {a hb lb : Int} (h : Four w a hb lb W) {p : Addr} (hp : w.heap.size + 3 < p.block) (v : Value) : Four w a hb lb (W.setCell p v) :=
  ⟨h.l.setNe (by omega) v, h.r.setNe (by omega) v, h.z.setNe (by omega) v, h.y.setNe (by omega) v, h.u.setCell (.inr (by omega)) v⟩
theorem Four.start (w : World) (a hb lb : Int) : Four w a hb lb ((((w.alloc (.cells #[.int .i64 (wh a), .int .u64 (wl a)] 39)).alloc (.cells #[.int .i64 hb, .int .u64 lb] 39)).alloc (.cells #[.int .i64 0, .int .u64 0] 39)).alloc (.cells #[.int .i64 0, .int .u64 0] 39)) := by
  refine ⟨(((HB.new _ _ _).alloc _).alloc _).alloc _, ((HB.new1 _ _ _ _).alloc _).alloc _, ?_, ?_, ((((Upd.refl _ _).alloc _).alloc _).alloc _).alloc _⟩
  · have := HB.new ((w.alloc (.cells #[.int .i64 (wh a), .int .u64 (wl a)] 39)).alloc (.cells #[.int .i64 hb, .int .u64 lb] 39)) 39 [.int .i64 0, .int .u64 0]
    have := this.alloc (.cells #[.int .i64 0, .int .u64 0] 39)
    simpa using this
  · have := HB.new (((w.alloc (.cells #[.int .i64 (wh a), .int .u64 (wl a)] 39)).alloc (.cells #[.int .i64 hb, .int .u64 lb] 39)).alloc (.cells #[.int .i64 0, .int .u64 0] 39)) 39 [.int .i64 0, .int .u64 0]
    simpa using this
/-- x points to limbs of its own; when 'done' they are these. -/
def Lim4 (w W : World) (x : Value) (done : Bool) (v0 v1 : Int) : Prop :=
  ∃ p c0 c1, x = .pointer (some ⟨p, 0, none⟩) ∧ w.heap.size + 3 < p ∧ HB W p 145 [.int .u64 c0, .int .u64 c1] ∧ (done = true → c0 = v0 ∧ c1 = v1)
theorem Lim4.upd {w W W' : World} {x : Value} {d : Bool} {v0 v1 : Int} (h : Lim4 w W x d v0 v1) (hU : Upd [] W W') : Lim4 w W' x d v0 v1 := by
  obtain ⟨p, c0, c1, q1, q2, q3, q4⟩ := h
  exact ⟨p, c0, c1, q1, q2, q3.upd hU (by simp), q4⟩
theorem Lim4.set {w W : World} {x : Value} {d : Bool} {v0 v1 : Int} (h : Lim4 w W x d v0 v1) {p : Nat} {o : Nat} (hp : x ≠ .pointer (some ⟨p, 0, none⟩)) (u : Value) : Lim4 w (W.setCell ⟨p, o, none⟩ u) x d v0 v1 := by
  obtain ⟨q, c0, c1, rfl, q2, q3, q4⟩ := h
  exact ⟨q, c0, c1, rfl, q2, q3.setNe (fun e => hp (by simp at e; rw [e])) u, q4⟩
/-- Region 3 of Quo: what stands when the operations of D are done. -/
def QuoI (w : World) (a b hb lb : Int) (D : Nat → Bool) (A : Act) (W : World) : Prop :=
  ∃ x7 x8 x18 x19 x20 x21 x22 x23 x24 x25 : Value, A = { tmps := #[wide a, wide b, .pointer (some ⟨w.heap.size, 0, none⟩), .pointer (some ⟨w.heap.size + 1, 0, none⟩), .pointer (some ⟨w.heap.size + 2, 0, none⟩), .pointer (some ⟨w.heap.size + 3, 0, none⟩), .int .i64 0, x7, x8, undef, undef, undef, undef, .agg #[.int .i64 hb, .int .u64 lb], .agg #[.int .i64 0, .int .u64 0], .bool false, undef, undef, x18, x19, x20, x21, x22, x23, x24, x25, undef, undef, undef, undef, undef, undef, undef, undef, undef, undef, undef, undef, undef, undef, undef, undef, undef, undef, undef, undef, undef, undef, undef, undef, undef, undef, undef], defers := [] } ∧ Four w a hb lb W ∧
    (D 0 = true → x19 = wide a) ∧ (D 1 = true → x20 = am a) ∧ (D 2 = true → x21 = wide b) ∧ (D 3 = true → x22 = am b) ∧
    (D 4 = true → x23 = .tuple #[lmv (a.natAbs / b.natAbs), lmv (a.natAbs % b.natAbs)]) ∧ (D 5 = true → x18 = .tuple #[lmv (a.natAbs / b.natAbs), lmv (a.natAbs % b.natAbs)]) ∧ (D 6 = true → x24 = lmv (a.natAbs / b.natAbs)) ∧ (D 7 = true → x25 = lmv (a.natAbs % b.natAbs)) ∧
    (D 8 = true → Lim4 w W x7 (D 10) (wl (a.natAbs / b.natAbs : Nat)) (wh (a.natAbs / b.natAbs : Nat))) ∧ (D 9 = true → Lim4 w W x8 (D 11) (wl (a.natAbs % b.natAbs : Nat)) (wh (a.natAbs % b.natAbs : Nat))) ∧
    (D 8 = true → D 9 = true → x7 ≠ x8) ∧ (D 10 = true → D 8 = true) ∧ (D 11 = true → D 9 = true)

theorem tdiv_abs (a b : Int) : a.tdiv b = if (decide (a < 0) != decide (b < 0)) = true then -((a.natAbs / b.natAbs : Nat) : Int) else ((a.natAbs / b.natAbs : Nat) : Int) := by
  rcases a with a | a <;> rcases b with b | b <;> simp [Int.tdiv, Int.negSucc_lt_zero] <;> first | omega | rfl
theorem tmod_abs (a b : Int) : a.tmod b = if decide (a < 0) = true then -((a.natAbs % b.natAbs : Nat) : Int) else ((a.natAbs % b.natAbs : Nat) : Int) := by
  rcases a with a | a <;> rcases b with b | b <;> simp [Int.tmod, Int.negSucc_lt_zero] <;> first | omega | rfl
theorem wh_neg (a : Int) : decide (a < 0) = decide (wh a < 0) := by
  have : a < 0 ↔ wh a < 0 := by unfold wh; omega
  simp [this]
set_option maxRecDepth 10000 in
set_option maxHeartbeats 4000000 in
theorem quo_calls (a b : Int) (ha : I128 a) (hb : I128 b) (h0 : b ≠ 0) (hq : I128 (a.tdiv b)) (w : World) : Calls Tryz.prog 54 #[wide a, wide b] w fun e w' => e = .returned (.tuple #[wide (a.tdiv b), wide (a.tmod b), .int .i64 0]) ∧ Upd [] w w' := by
  have hM : a.natAbs < 2 ^ 128 := by unfold I128 at ha; omega
  have hN : b.natAbs < 2 ^ 128 := by unfold I128 at hb; omega
  have hB0 : 0 < b.natAbs := by omega
  have hT0 : I128 (a.tmod b) := by
    have h1 := Int.natAbs_tmod a b
    have h2 := Nat.mod_lt a.natAbs hB0
    unfold I128 at *
    omega
  have HQI := Lib.hid hq
  have HTI := Lib.hid hT0
  have HZ0 := Lib.hid h0
  clear hq hT0 h0
  have eB := whl b

  by_cases k1 : wh b = 0
  · have k2 : ¬ wl b = 0 := fun e => by have := HZ0.out; rw [k1, e] at eB; omega
    go_enter Tryz.func54, Tryz.ntmps54
    go_wp2
    have HBE := Lib.hid (show Value.agg #[.int .i64 0, .int .u64 (wl b)] = wide b by first | rfl | (unfold wide; rw [k1]))
    obtain ⟨W0, hW0⟩ : ∃ W0, W0 = ((((w.alloc (.cells #[.int .i64 (wh a), .int .u64 (wl a)] 39)).alloc (.cells #[.int .i64 0, .int .u64 (wl b)] 39)).alloc (.cells #[.int .i64 0, .int .u64 0] 39)).alloc (.cells #[.int .i64 0, .int .u64 0] 39)) := ⟨_, rfl⟩
    have hS : Four w a 0 (wl b) W0 := hW0 ▸ Four.start w a 0 (wl b)
    rw [← hW0]
    clear hW0
    refine region_inv (by kernel_rfl) (by kernel_rfl) (QuoI w a b 0 (wl b)) ⟨_, _, _, _, _, _, _, _, _, _, rfl, hS.drew, (fun h => by cases h), (fun h => by cases h), (fun h => by cases h), (fun h => by cases h), (fun h => by cases h), (fun h => by cases h), (fun h => by cases h), (fun h => by cases h), (fun h => by cases h), (fun h => by cases h), (fun h => by cases h), (fun h => by cases h), (fun h => by cases h)⟩ ?_ ?_
    · rintro D A W i o ⟨x7, x8, x18, x19, x20, x21, x22, x23, x24, x25, rfl, hT, h0, h1, h2, h3, h4, h5, h6, h7, h8, h9, h89, h108, h119⟩ ho hD hdep
      have hi : i < 12 := (Array.getElem?_eq_some_iff.1 ho).1
      match i with
      | 0 =>
        refine wpOp_of_list ho ?_
        obtain rfl := Option.some.inj ho
        have y0 := hT.l.cell (j := 0) rfl
        have y1 := hT.l.cell (j := 1) rfl
        go_wp2
        exact ⟨_, _, _, _, _, _, _, _, _, _, rfl, hT, (fun _ => rfl), (by simpa using h1), (by simpa using h2), (by simpa using h3), (by simpa using h4), (by simpa using h5), (by simpa using h6), (by simpa using h7), (by simpa using h8), (by simpa using h9), (by simpa using h89), (by simpa using h108), (by simpa using h119)⟩
      | 1 =>
        refine wpOp_of_list ho ?_
        obtain rfl := Option.some.inj ho
        obtain rfl := h0 (hdep ⟨0, .data⟩ (by simp) rfl)
        go_wp2_with fail
        refine (amount_calls a ha W).mono ?_
        rintro e w1 ⟨rfl, hU⟩
        go_wp2
        exact ⟨_, _, _, _, _, _, _, _, _, _, rfl, hT.upd hU, (by simp), (fun _ => rfl), (by simpa using h2), (by simpa using h3), (by simpa using h4), (by simpa using h5), (by simpa using h6), (by simpa using h7), (by simpa using fun h => (h8 h).upd hU), (by simpa using fun h => (h9 h).upd hU), (by simpa using h89), (by simpa using h108), (by simpa using h119)⟩
      | 2 =>
        refine wpOp_of_list ho ?_
        obtain rfl := Option.some.inj ho
        have y0 := hT.r.cell (j := 0) rfl
        have y1 := hT.r.cell (j := 1) rfl
        go_wp2
        exact ⟨_, _, _, _, _, _, _, _, _, _, rfl, hT, (by simpa using h0), (by simpa using h1), (fun _ => by first | exact HBE.out | rfl), (by simpa using h3), (by simpa using h4), (by simpa using h5), (by simpa using h6), (by simpa using h7), (by simpa using h8), (by simpa using h9), (by simpa using h89), (by simpa using h108), (by simpa using h119)⟩
      | 3 =>
        refine wpOp_of_list ho ?_
        obtain rfl := Option.some.inj ho
        obtain rfl := h2 (hdep ⟨2, .data⟩ (by simp) rfl)
        go_wp2_with fail
        refine (amount_calls b hb W).mono ?_
        rintro e w1 ⟨rfl, hU⟩
        go_wp2
        exact ⟨_, _, _, _, _, _, _, _, _, _, rfl, hT.upd hU, (by simpa using h0), (by simpa using h1), (by simp), (fun _ => rfl), (by simpa using h4), (by simpa using h5), (by simpa using h6), (by simpa using h7), (by simpa using fun h => (h8 h).upd hU), (by simpa using fun h => (h9 h).upd hU), (by simpa using h89), (by simpa using h108), (by simpa using h119)⟩
      | 4 =>
        refine wpOp_of_list ho ?_
        obtain rfl := Option.some.inj ho
        obtain rfl := h1 (hdep ⟨1, .data⟩ (by simp) rfl)
        obtain rfl := h3 (hdep ⟨3, .data⟩ (by simp) rfl)
        go_wp2_with fail
        refine (divided_calls a.natAbs b.natAbs hM hB0 hN W).mono ?_
        rintro e w1 ⟨rfl, hU⟩
        go_wp2
        exact ⟨_, _, _, _, _, _, _, _, _, _, rfl, hT.upd hU, (by simpa using h0), (by simp), (by simpa using h2), (by simp), (fun _ => rfl), (by simpa using h5), (by simpa using h6), (by simpa using h7), (by simpa using fun h => (h8 h).upd hU), (by simpa using fun h => (h9 h).upd hU), (by simpa using h89), (by simpa using h108), (by simpa using h119)⟩
      | 5 =>
        refine wpOp_of_list ho ?_
        obtain rfl := Option.some.inj ho
        obtain rfl := h4 (hdep ⟨4, .data⟩ (by simp) rfl)
        go_wp2
        exact ⟨_, _, _, _, _, _, _, _, _, _, rfl, hT, (by simpa using h0), (by simpa using h1), (by simpa using h2), (by simpa using h3), (by simp), (fun _ => rfl), (by simpa using h6), (by simpa using h7), (by simpa using h8), (by simpa using h9), (by simpa using h89), (by simpa using h108), (by simpa using h119)⟩
      | 6 =>
        refine wpOp_of_list ho ?_
        obtain rfl := Option.some.inj ho
        obtain rfl := h5 (hdep ⟨5, .data⟩ (by simp) rfl)
        go_wp2
        exact ⟨_, _, _, _, _, _, _, _, _, _, rfl, hT, (by simpa using h0), (by simpa using h1), (by simpa using h2), (by simpa using h3), (by simpa using h4), (by simp), (fun _ => rfl), (by simpa using h7), (by simpa using h8), (by simpa using h9), (by simpa using h89), (by simpa using h108), (by simpa using h119)⟩
      | 7 =>
        refine wpOp_of_list ho ?_
        obtain rfl := Option.some.inj ho
        obtain rfl := h5 (hdep ⟨5, .data⟩ (by simp) rfl)
        go_wp2
        exact ⟨_, _, _, _, _, _, _, _, _, _, rfl, hT, (by simpa using h0), (by simpa using h1), (by simpa using h2), (by simpa using h3), (by simpa using h4), (by simp), (by simpa using h6), (fun _ => rfl), (by simpa using h8), (by simpa using h9), (by simpa using h89), (by simpa using h108), (by simpa using h119)⟩
      | 8 =>
        refine wpOp_of_list ho ?_
        obtain rfl := Option.some.inj ho
        go_wp2
        have hU : Upd [] W (W.alloc (.cells #[.int .u64 0, .int .u64 0] 145)) := (Upd.refl _ _).alloc _
        have hz : D 10 = false := by
          rcases Bool.eq_false_or_eq_true (D 10) with h | h
          · rw [h108 h] at hD; cases hD
          · exact h
        refine ⟨_, _, _, _, _, _, _, _, _, _, rfl, hT.alloc _, (by simpa using h0), (by simpa using h1), (by simpa using h2), (by simpa using h3), (by simpa using h4), (by simpa using h5), (by simpa using h6), (by simpa using h7), (fun _ => ⟨W.heap.size, 0, 0, rfl, hT.lt, HB.new W _ [.int .u64 0, .int .u64 0], by simp [hz]⟩), (by simpa using fun h => (h9 h).upd hU), ?_, (by simp), (by simpa using h119)⟩
        intro _ h e
        obtain ⟨p, c0, c1, rfl, q2, q3, q4⟩ := h9 (by simpa using h)
        have := q3.lt
        first | (simp at e; done) | (simp at e; omega)
      | 9 =>
        refine wpOp_of_list ho ?_
        obtain rfl := Option.some.inj ho
        go_wp2
        have hU : Upd [] W (W.alloc (.cells #[.int .u64 0, .int .u64 0] 145)) := (Upd.refl _ _).alloc _
        have hz : D 11 = false := by
          rcases Bool.eq_false_or_eq_true (D 11) with h | h
          · rw [h119 h] at hD; cases hD
          · exact h
        refine ⟨_, _, _, _, _, _, _, _, _, _, rfl, hT.alloc _, (by simpa using h0), (by simpa using h1), (by simpa using h2), (by simpa using h3), (by simpa using h4), (by simpa using h5), (by simpa using h6), (by simpa using h7), (by simpa using fun h => (h8 h).upd hU), (fun _ => ⟨W.heap.size, 0, 0, rfl, hT.lt, HB.new W _ [.int .u64 0, .int .u64 0], by simp [hz]⟩), ?_, (by simpa using h108), (by simp)⟩
        intro h _ e
        obtain ⟨p, c0, c1, rfl, q2, q3, q4⟩ := h8 (by simpa using h)
        have := q3.lt
        first | (simp at e; done) | (simp at e; omega)
      | 10 =>
        refine wpOp_of_list ho ?_
        obtain rfl := Option.some.inj ho
        have d8 := hdep ⟨8, .data⟩ (by simp) rfl
        obtain rfl := h6 (hdep ⟨6, .data⟩ (by simp) rfl)
        obtain ⟨p, c0, c1, rfl, q2, q3, q4⟩ := h8 d8
        have y0 := q3.cell (j := 0) rfl
        have y1 := q3.cell (j := 1) rfl
        have f0 := q3.free 0
        have f1 := q3.free 1
        go_wp2
        exact ⟨_, _, _, _, _, _, _, _, _, _, rfl, (hT.set (p := ⟨p, 0, none⟩) q2 _).set (p := ⟨p, 1, none⟩) q2 _, (by simpa using h0), (by simpa using h1), (by simpa using h2), (by simpa using h3), (by simpa using h4), (by simpa using h5), (by simp), (by simpa using h7), (fun _ => ⟨p, _, _, rfl, q2, (q3.set 0 (.int .u64 (wl (a.natAbs / b.natAbs : Nat)))).set 1 (.int .u64 (wh (a.natAbs / b.natAbs : Nat))), fun _ => ⟨rfl, rfl⟩⟩), (by simpa using fun h => (((h9 h).set (p := p) (o := 0) (fun e => h89 d8 h e.symm) (.int .u64 (wl (a.natAbs / b.natAbs : Nat)))).set (p := p) (o := 1) (fun e => h89 d8 h e.symm) (.int .u64 (wh (a.natAbs / b.natAbs : Nat))))), (by simpa using h89), (by simp [d8]), (by simpa using h119)⟩
      | 11 =>
        refine wpOp_of_list ho ?_
        obtain rfl := Option.some.inj ho
        have d9 := hdep ⟨9, .data⟩ (by simp) rfl
        obtain rfl := h7 (hdep ⟨7, .data⟩ (by simp) rfl)
        obtain ⟨p, c0, c1, rfl, q2, q3, q4⟩ := h9 d9
        have y0 := q3.cell (j := 0) rfl
        have y1 := q3.cell (j := 1) rfl
        have f0 := q3.free 0
        have f1 := q3.free 1
        go_wp2
        exact ⟨_, _, _, _, _, _, _, _, _, _, rfl, (hT.set (p := ⟨p, 0, none⟩) q2 _).set (p := ⟨p, 1, none⟩) q2 _, (by simpa using h0), (by simpa using h1), (by simpa using h2), (by simpa using h3), (by simpa using h4), (by simpa using h5), (by simpa using h6), (by simp), (by simpa using fun h => (((h8 h).set (p := p) (o := 0) (fun e => h89 h d9 e) (.int .u64 (wl (a.natAbs % b.natAbs : Nat)))).set (p := p) (o := 1) (fun e => h89 h d9 e) (.int .u64 (wh (a.natAbs % b.natAbs : Nat))))), (fun _ => ⟨p, _, _, rfl, q2, (q3.set 0 (.int .u64 (wl (a.natAbs % b.natAbs : Nat)))).set 1 (.int .u64 (wh (a.natAbs % b.natAbs : Nat))), fun _ => ⟨rfl, rfl⟩⟩), (by simpa using h89), (by simpa using h108), (by simp [d9])⟩
      | i + 12 => omega
    · rintro D A W ⟨x7, x8, x18, x19, x20, x21, x22, x23, x24, x25, rfl, hT, h0, h1, h2, h3, h4, h5, h6, h7, h8, h9, h89, h108, h119⟩ hall
      obtain ⟨p, c0, c1, rfl, hp2, hp3, hp4⟩ := h8 (hall 8 (by decide))
      obtain ⟨q, d0, d1, rfl, hq2, hq3, hq4⟩ := h9 (hall 9 (by decide))
      obtain ⟨rfl, rfl⟩ := hp4 (hall 10 (by decide))
      obtain ⟨rfl, rfl⟩ := hq4 (hall 11 (by decide))
      have hpq : p ≠ q := fun e => h89 (hall 8 (by decide)) (hall 9 (by decide)) (by rw [e])
      clear h0 h1 h2 h3 h4 h5 h6 h7 h8 h9 h89 h108 h119 hall hp4 hq4 hS
      dsimp only
      obtain ⟨X, hX⟩ : ∃ X, X = a.tdiv b := ⟨_, rfl⟩
      obtain ⟨R, hR⟩ : ∃ R, R = a.tmod b := ⟨_, rfl⟩
      have HX := Lib.hid hX
      have HR := Lib.hid hR
      obtain ⟨ba, hba⟩ : ∃ ba, ba = decide (wh a < 0) := ⟨_, rfl⟩
      obtain ⟨bb, hbb⟩ : ∃ bb, bb = decide (wh b < 0) := ⟨_, rfl⟩
      have SC1 := Lib.hid (fun Z => (signed_calls ((a.natAbs / b.natAbs : Nat) : Int) (ba != bb) (Int.natCast_nonneg _) (by have h := Nat.div_le_self a.natAbs b.natAbs; have h2 : ((a.natAbs / b.natAbs : Nat) : Int) ≤ (a.natAbs : Int) := Int.ofNat_le.2 h; omega) Z).mono (R' := fun e w' => e = .returned (.tuple #[wide X, .int .i64 0]) ∧ Upd [] Z w') (by
        rintro e w' ⟨rfl, hu⟩
        refine ⟨?_, hu⟩
        rw [hba, hbb, ← wh_neg, ← wh_neg, ← tdiv_abs, wres_in HQI.out, hX]))
      have SC2 := Lib.hid (fun Z => (signed_calls ((a.natAbs % b.natAbs : Nat) : Int) ba (Int.natCast_nonneg _) (by have h := Nat.mod_le a.natAbs b.natAbs; have h2 : ((a.natAbs % b.natAbs : Nat) : Int) ≤ (a.natAbs : Int) := Int.ofNat_le.2 h; omega) Z).mono (R' := fun e w' => e = .returned (.tuple #[wide R, .int .i64 0]) ∧ Upd [] Z w') (by
        rintro e w' ⟨rfl, hu⟩
        refine ⟨?_, hu⟩
        rw [hba, ← wh_neg, ← tmod_abs, wres_in HTI.out, hR]))
      clear hX hR
      obtain rfl : false = bb := by (rw [hbb, k1]; rfl)
      clear hbb
      rw [Bool.bne_false] at SC1
      have HT := Lib.hid hT
      have HQ := Lib.hid hq3
      have pm0 := hp3.cell (j := 0) rfl
      have pm1 := hp3.cell (j := 1) rfl
      have l0 := hT.l.cell (j := 0) rfl
      have r0 := hT.r.cell (j := 0) rfl
      clear hp3 hq3 hT eB hM hN hB0
      replace hba := hba.symm
      go_wp2_with fail
      refine (SC1.out _).mono ?_
      rintro e w1 ⟨rfl, hU1⟩
      have T1 := (HT.out.upd hU1).alloc (.cells #[.int .i64 (wh X), .int .u64 (wl X)] 39)
      have Q1 := (HQ.out.upd hU1 (by simp)).alloc (.cells #[.int .i64 (wh X), .int .u64 (wl X)] 39)
      have N1 := HB.new w1 39 [.int .i64 (wh X), .int .u64 (wl X)]
      have T1' := Lib.hid T1
      have N1' := Lib.hid N1
      have l1 := T1.l.cell (j := 0) rfl
      have qm0 := Q1.cell (j := 0) rfl
      have qm1 := Q1.cell (j := 1) rfl
      have HL1 := Lib.hid (show w.heap.size + 3 < w1.heap.size from Nat.lt_of_lt_of_le HT.out.lt hU1.size)
      clear hU1 T1 Q1 N1 pm0 pm1 l0 r0
      go_wp2_with fail
      refine (SC2.out _).mono ?_
      rintro e w2 ⟨rfl, hU2⟩
      obtain ⟨W3, hW3⟩ : ∃ W3, W3 = w2.alloc (.cells #[.int .i64 (wh R), .int .u64 (wl R)] 39) := ⟨_, rfl⟩
      have T2 : Four w a 0 (wl b) W3 := by rw [hW3]; exact (T1'.out.upd hU2).alloc _
      have N2 : HB W3 w1.heap.size 39 [.int .i64 (wh X), .int .u64 (wl X)] := by rw [hW3]; exact (N1'.out.upd hU2 (by simp)).alloc _
      have M2 : HB W3 w2.heap.size 39 [.int .i64 (wh R), .int .u64 (wl R)] := by rw [hW3]; exact HB.new w2 39 [.int .i64 (wh R), .int .u64 (wl R)]
      have T2' := Lib.hid T2
      have z0 := T2.z.cell (j := 0) rfl
      have z1 := T2.z.cell (j := 1) rfl
      have zf0 := T2.z.free 0
      have zf1 := T2.z.free 1
      have y0 := T2.y.cell (j := 0) rfl
      have y1 := T2.y.cell (j := 1) rfl
      have yf0 := T2.y.free 0
      have yf1 := T2.y.free 1
      have n0 := N2.cell (j := 0) rfl
      have n1 := N2.cell (j := 1) rfl
      have m0 := M2.cell (j := 0) rfl
      have m1 := M2.cell (j := 1) rfl
      have h12 : w1.heap.size < w2.heap.size := Nat.lt_of_lt_of_le N1'.out.lt hU2.size
      have h03 := HL1.out
      have e1 : ¬ (w2.heap.size = w.heap.size + 2) := by omega
      have e2 : ¬ (w2.heap.size = w.heap.size + 3) := by omega
      have e3 : ¬ (w1.heap.size = w.heap.size + 2) := by omega
      have e4 : ¬ (w1.heap.size = w.heap.size + 3) := by omega
      have e5 : ¬ (w.heap.size + 2 = w2.heap.size) := by omega
      have e6 : ¬ (w.heap.size + 3 = w2.heap.size) := by omega
      have e7 : ¬ (w.heap.size + 2 = w1.heap.size) := by omega
      have e8 : ¬ (w.heap.size + 3 = w1.heap.size) := by omega
      clear hU2 T2 N2 M2 l1 qm0 qm1 h12 h03
      go_wp2_with fail
      rw [← hW3]
      clear hW3
      go_region
      go_wp2
      have hz' := ((((T2'.out.z.set 0 (.int .i64 (wh X))).set 1 (.int .u64 (wl X))).setNe (p := ⟨w.heap.size + 3, 0, none⟩) (by dsimp only; omega) (.int .i64 (wh R))).setNe (p := ⟨w.heap.size + 3, 1, none⟩) (by dsimp only; omega) (.int .u64 (wl R))).drew
      have hy' := ((((T2'.out.y.setNe (p := ⟨w.heap.size + 2, 0, none⟩) (by dsimp only; omega) (.int .i64 (wh X))).setNe (p := ⟨w.heap.size + 2, 1, none⟩) (by dsimp only; omega) (.int .u64 (wl X))).set 0 (.int .i64 (wh R))).set 1 (.int .u64 (wl R))).drew
      have k0 := hz'.cell (j := 0) rfl
      have k1 := hz'.cell (j := 1) rfl
      have k2 := hy'.cell (j := 0) rfl
      have k3 := hy'.cell (j := 1) rfl
      refine bodyPost_ret (v := .tuple #[wide X, wide R, .int .i64 0]) ?_ rfl ⟨by rw [HX.out, HR.out], ?_⟩
      · simp [results, Tryz.f54, go_sem, k0, k1, k2, k3]
      · repeat (first | with_reducible exact T2'.out.u | with_reducible refine Upd.drew ?_ | (with_reducible refine Upd.setCell ?_ (.inr ?h) _; case h => (dsimp only; omega)))
  · go_enter Tryz.func54, Tryz.ntmps54
    go_wp2
    have HBE := Lib.hid (show Value.agg #[.int .i64 (wh b), .int .u64 (wl b)] = wide b by first | rfl | (unfold wide; rw [k1]))
    obtain ⟨W0, hW0⟩ : ∃ W0, W0 = ((((w.alloc (.cells #[.int .i64 (wh a), .int .u64 (wl a)] 39)).alloc (.cells #[.int .i64 (wh b), .int .u64 (wl b)] 39)).alloc (.cells #[.int .i64 0, .int .u64 0] 39)).alloc (.cells #[.int .i64 0, .int .u64 0] 39)) := ⟨_, rfl⟩
    have hS : Four w a (wh b) (wl b) W0 := hW0 ▸ Four.start w a (wh b) (wl b)
    rw [← hW0]
    clear hW0
    refine region_inv (by kernel_rfl) (by kernel_rfl) (QuoI w a b (wh b) (wl b)) ⟨_, _, _, _, _, _, _, _, _, _, rfl, hS.drew, (fun h => by cases h), (fun h => by cases h), (fun h => by cases h), (fun h => by cases h), (fun h => by cases h), (fun h => by cases h), (fun h => by cases h), (fun h => by cases h), (fun h => by cases h), (fun h => by cases h), (fun h => by cases h), (fun h => by cases h), (fun h => by cases h)⟩ ?_ ?_
    · rintro D A W i o ⟨x7, x8, x18, x19, x20, x21, x22, x23, x24, x25, rfl, hT, h0, h1, h2, h3, h4, h5, h6, h7, h8, h9, h89, h108, h119⟩ ho hD hdep
      have hi : i < 12 := (Array.getElem?_eq_some_iff.1 ho).1
      match i with
      | 0 =>
        refine wpOp_of_list ho ?_
        obtain rfl := Option.some.inj ho
        have y0 := hT.l.cell (j := 0) rfl
        have y1 := hT.l.cell (j := 1) rfl
        go_wp2
        exact ⟨_, _, _, _, _, _, _, _, _, _, rfl, hT, (fun _ => rfl), (by simpa using h1), (by simpa using h2), (by simpa using h3), (by simpa using h4), (by simpa using h5), (by simpa using h6), (by simpa using h7), (by simpa using h8), (by simpa using h9), (by simpa using h89), (by simpa using h108), (by simpa using h119)⟩
      | 1 =>
        refine wpOp_of_list ho ?_
        obtain rfl := Option.some.inj ho
        obtain rfl := h0 (hdep ⟨0, .data⟩ (by simp) rfl)
        go_wp2_with fail
        refine (amount_calls a ha W).mono ?_
        rintro e w1 ⟨rfl, hU⟩
        go_wp2
        exact ⟨_, _, _, _, _, _, _, _, _, _, rfl, hT.upd hU, (by simp), (fun _ => rfl), (by simpa using h2), (by simpa using h3), (by simpa using h4), (by simpa using h5), (by simpa using h6), (by simpa using h7), (by simpa using fun h => (h8 h).upd hU), (by simpa using fun h => (h9 h).upd hU), (by simpa using h89), (by simpa using h108), (by simpa using h119)⟩
      | 2 =>
        refine wpOp_of_list ho ?_
        obtain rfl := Option.some.inj ho
        have y0 := hT.r.cell (j := 0) rfl
        have y1 := hT.r.cell (j := 1) rfl
        go_wp2
        exact ⟨_, _, _, _, _, _, _, _, _, _, rfl, hT, (by simpa using h0), (by simpa using h1), (fun _ => by first | exact HBE.out | rfl), (by simpa using h3), (by simpa using h4), (by simpa using h5), (by simpa using h6), (by simpa using h7), (by simpa using h8), (by simpa using h9), (by simpa using h89), (by simpa using h108), (by simpa using h119)⟩
      | 3 =>
        refine wpOp_of_list ho ?_
        obtain rfl := Option.some.inj ho
        obtain rfl := h2 (hdep ⟨2, .data⟩ (by simp) rfl)
        go_wp2_with fail
        refine (amount_calls b hb W).mono ?_
        rintro e w1 ⟨rfl, hU⟩
        go_wp2
        exact ⟨_, _, _, _, _, _, _, _, _, _, rfl, hT.upd hU, (by simpa using h0), (by simpa using h1), (by simp), (fun _ => rfl), (by simpa using h4), (by simpa using h5), (by simpa using h6), (by simpa using h7), (by simpa using fun h => (h8 h).upd hU), (by simpa using fun h => (h9 h).upd hU), (by simpa using h89), (by simpa using h108), (by simpa using h119)⟩
      | 4 =>
        refine wpOp_of_list ho ?_
        obtain rfl := Option.some.inj ho
        obtain rfl := h1 (hdep ⟨1, .data⟩ (by simp) rfl)
        obtain rfl := h3 (hdep ⟨3, .data⟩ (by simp) rfl)
        go_wp2_with fail
        refine (divided_calls a.natAbs b.natAbs hM hB0 hN W).mono ?_
        rintro e w1 ⟨rfl, hU⟩
        go_wp2
        exact ⟨_, _, _, _, _, _, _, _, _, _, rfl, hT.upd hU, (by simpa using h0), (by simp), (by simpa using h2), (by simp), (fun _ => rfl), (by simpa using h5), (by simpa using h6), (by simpa using h7), (by simpa using fun h => (h8 h).upd hU), (by simpa using fun h => (h9 h).upd hU), (by simpa using h89), (by simpa using h108), (by simpa using h119)⟩
      | 5 =>
        refine wpOp_of_list ho ?_
        obtain rfl := Option.some.inj ho
        obtain rfl := h4 (hdep ⟨4, .data⟩ (by simp) rfl)
        go_wp2
        exact ⟨_, _, _, _, _, _, _, _, _, _, rfl, hT, (by simpa using h0), (by simpa using h1), (by simpa using h2), (by simpa using h3), (by simp), (fun _ => rfl), (by simpa using h6), (by simpa using h7), (by simpa using h8), (by simpa using h9), (by simpa using h89), (by simpa using h108), (by simpa using h119)⟩
      | 6 =>
        refine wpOp_of_list ho ?_
        obtain rfl := Option.some.inj ho
        obtain rfl := h5 (hdep ⟨5, .data⟩ (by simp) rfl)
        go_wp2
        exact ⟨_, _, _, _, _, _, _, _, _, _, rfl, hT, (by simpa using h0), (by simpa using h1), (by simpa using h2), (by simpa using h3), (by simpa using h4), (by simp), (fun _ => rfl), (by simpa using h7), (by simpa using h8), (by simpa using h9), (by simpa using h89), (by simpa using h108), (by simpa using h119)⟩
      | 7 =>
        refine wpOp_of_list ho ?_
        obtain rfl := Option.some.inj ho
        obtain rfl := h5 (hdep ⟨5, .data⟩ (by simp) rfl)
        go_wp2
        exact ⟨_, _, _, _, _, _, _, _, _, _, rfl, hT, (by simpa using h0), (by simpa using h1), (by simpa using h2), (by simpa using h3), (by simpa using h4), (by simp), (by simpa using h6), (fun _ => rfl), (by simpa using h8), (by simpa using h9), (by simpa using h89), (by simpa using h108), (by simpa using h119)⟩
      | 8 =>
        refine wpOp_of_list ho ?_
        obtain rfl := Option.some.inj ho
        go_wp2
        have hU : Upd [] W (W.alloc (.cells #[.int .u64 0, .int .u64 0] 145)) := (Upd.refl _ _).alloc _
        have hz : D 10 = false := by
          rcases Bool.eq_false_or_eq_true (D 10) with h | h
          · rw [h108 h] at hD; cases hD
          · exact h
        refine ⟨_, _, _, _, _, _, _, _, _, _, rfl, hT.alloc _, (by simpa using h0), (by simpa using h1), (by simpa using h2), (by simpa using h3), (by simpa using h4), (by simpa using h5), (by simpa using h6), (by simpa using h7), (fun _ => ⟨W.heap.size, 0, 0, rfl, hT.lt, HB.new W _ [.int .u64 0, .int .u64 0], by simp [hz]⟩), (by simpa using fun h => (h9 h).upd hU), ?_, (by simp), (by simpa using h119)⟩
        intro _ h e
        obtain ⟨p, c0, c1, rfl, q2, q3, q4⟩ := h9 (by simpa using h)
        have := q3.lt
        first | (simp at e; done) | (simp at e; omega)
      | 9 =>
        refine wpOp_of_list ho ?_
        obtain rfl := Option.some.inj ho
        go_wp2
        have hU : Upd [] W (W.alloc (.cells #[.int .u64 0, .int .u64 0] 145)) := (Upd.refl _ _).alloc _
        have hz : D 11 = false := by
          rcases Bool.eq_false_or_eq_true (D 11) with h | h
          · rw [h119 h] at hD; cases hD
          · exact h
        refine ⟨_, _, _, _, _, _, _, _, _, _, rfl, hT.alloc _, (by simpa using h0), (by simpa using h1), (by simpa using h2), (by simpa using h3), (by simpa using h4), (by simpa using h5), (by simpa using h6), (by simpa using h7), (by simpa using fun h => (h8 h).upd hU), (fun _ => ⟨W.heap.size, 0, 0, rfl, hT.lt, HB.new W _ [.int .u64 0, .int .u64 0], by simp [hz]⟩), ?_, (by simpa using h108), (by simp)⟩
        intro h _ e
        obtain ⟨p, c0, c1, rfl, q2, q3, q4⟩ := h8 (by simpa using h)
        have := q3.lt
        first | (simp at e; done) | (simp at e; omega)
      | 10 =>
        refine wpOp_of_list ho ?_
        obtain rfl := Option.some.inj ho
        have d8 := hdep ⟨8, .data⟩ (by simp) rfl
        obtain rfl := h6 (hdep ⟨6, .data⟩ (by simp) rfl)
        obtain ⟨p, c0, c1, rfl, q2, q3, q4⟩ := h8 d8
        have y0 := q3.cell (j := 0) rfl
        have y1 := q3.cell (j := 1) rfl
        have f0 := q3.free 0
        have f1 := q3.free 1
        go_wp2
        exact ⟨_, _, _, _, _, _, _, _, _, _, rfl, (hT.set (p := ⟨p, 0, none⟩) q2 _).set (p := ⟨p, 1, none⟩) q2 _, (by simpa using h0), (by simpa using h1), (by simpa using h2), (by simpa using h3), (by simpa using h4), (by simpa using h5), (by simp), (by simpa using h7), (fun _ => ⟨p, _, _, rfl, q2, (q3.set 0 (.int .u64 (wl (a.natAbs / b.natAbs : Nat)))).set 1 (.int .u64 (wh (a.natAbs / b.natAbs : Nat))), fun _ => ⟨rfl, rfl⟩⟩), (by simpa using fun h => (((h9 h).set (p := p) (o := 0) (fun e => h89 d8 h e.symm) (.int .u64 (wl (a.natAbs / b.natAbs : Nat)))).set (p := p) (o := 1) (fun e => h89 d8 h e.symm) (.int .u64 (wh (a.natAbs / b.natAbs : Nat))))), (by simpa using h89), (by simp [d8]), (by simpa using h119)⟩
      | 11 =>
        refine wpOp_of_list ho ?_
        obtain rfl := Option.some.inj ho
        have d9 := hdep ⟨9, .data⟩ (by simp) rfl
        obtain rfl := h7 (hdep ⟨7, .data⟩ (by simp) rfl)
        obtain ⟨p, c0, c1, rfl, q2, q3, q4⟩ := h9 d9
        have y0 := q3.cell (j := 0) rfl
        have y1 := q3.cell (j := 1) rfl
        have f0 := q3.free 0
        have f1 := q3.free 1
        go_wp2
        exact ⟨_, _, _, _, _, _, _, _, _, _, rfl, (hT.set (p := ⟨p, 0, none⟩) q2 _).set (p := ⟨p, 1, none⟩) q2 _, (by simpa using h0), (by simpa using h1), (by simpa using h2), (by simpa using h3), (by simpa using h4), (by simpa using h5), (by simpa using h6), (by simp), (by simpa using fun h => (((h8 h).set (p := p) (o := 0) (fun e => h89 h d9 e) (.int .u64 (wl (a.natAbs % b.natAbs : Nat)))).set (p := p) (o := 1) (fun e => h89 h d9 e) (.int .u64 (wh (a.natAbs % b.natAbs : Nat))))), (fun _ => ⟨p, _, _, rfl, q2, (q3.set 0 (.int .u64 (wl (a.natAbs % b.natAbs : Nat)))).set 1 (.int .u64 (wh (a.natAbs % b.natAbs : Nat))), fun _ => ⟨rfl, rfl⟩⟩), (by simpa using h89), (by simpa using h108), (by simp [d9])⟩
      | i + 12 => omega
    · rintro D A W ⟨x7, x8, x18, x19, x20, x21, x22, x23, x24, x25, rfl, hT, h0, h1, h2, h3, h4, h5, h6, h7, h8, h9, h89, h108, h119⟩ hall
      obtain ⟨p, c0, c1, rfl, hp2, hp3, hp4⟩ := h8 (hall 8 (by decide))
      obtain ⟨q, d0, d1, rfl, hq2, hq3, hq4⟩ := h9 (hall 9 (by decide))
      obtain ⟨rfl, rfl⟩ := hp4 (hall 10 (by decide))
      obtain ⟨rfl, rfl⟩ := hq4 (hall 11 (by decide))
      have hpq : p ≠ q := fun e => h89 (hall 8 (by decide)) (hall 9 (by decide)) (by rw [e])
      clear h0 h1 h2 h3 h4 h5 h6 h7 h8 h9 h89 h108 h119 hall hp4 hq4 hS
      dsimp only
      obtain ⟨X, hX⟩ : ∃ X, X = a.tdiv b := ⟨_, rfl⟩
      obtain ⟨R, hR⟩ : ∃ R, R = a.tmod b := ⟨_, rfl⟩
      have HX := Lib.hid hX
      have HR := Lib.hid hR
      obtain ⟨ba, hba⟩ : ∃ ba, ba = decide (wh a < 0) := ⟨_, rfl⟩
      obtain ⟨bb, hbb⟩ : ∃ bb, bb = decide (wh b < 0) := ⟨_, rfl⟩
      have SC1 := Lib.hid (fun Z => (signed_calls ((a.natAbs / b.natAbs : Nat) : Int) (ba != bb) (Int.natCast_nonneg _) (by have h := Nat.div_le_self a.natAbs b.natAbs; have h2 : ((a.natAbs / b.natAbs : Nat) : Int) ≤ (a.natAbs : Int) := Int.ofNat_le.2 h; omega) Z).mono (R' := fun e w' => e = .returned (.tuple #[wide X, .int .i64 0]) ∧ Upd [] Z w') (by
        rintro e w' ⟨rfl, hu⟩
        refine ⟨?_, hu⟩
        rw [hba, hbb, ← wh_neg, ← wh_neg, ← tdiv_abs, wres_in HQI.out, hX]))
      have SC2 := Lib.hid (fun Z => (signed_calls ((a.natAbs % b.natAbs : Nat) : Int) ba (Int.natCast_nonneg _) (by have h := Nat.mod_le a.natAbs b.natAbs; have h2 : ((a.natAbs % b.natAbs : Nat) : Int) ≤ (a.natAbs : Int) := Int.ofNat_le.2 h; omega) Z).mono (R' := fun e w' => e = .returned (.tuple #[wide R, .int .i64 0]) ∧ Upd [] Z w') (by
        rintro e w' ⟨rfl, hu⟩
        refine ⟨?_, hu⟩
        rw [hba, ← wh_neg, ← tmod_abs, wres_in HTI.out, hR]))
      clear hX hR
      replace hbb := hbb.symm
      have HT := Lib.hid hT
      have HQ := Lib.hid hq3
      have pm0 := hp3.cell (j := 0) rfl
      have pm1 := hp3.cell (j := 1) rfl
      have l0 := hT.l.cell (j := 0) rfl
      have r0 := hT.r.cell (j := 0) rfl
      clear hp3 hq3 hT eB hM hN hB0
      replace hba := hba.symm
      go_wp2_with fail
      refine (SC1.out _).mono ?_
      rintro e w1 ⟨rfl, hU1⟩
      have T1 := (HT.out.upd hU1).alloc (.cells #[.int .i64 (wh X), .int .u64 (wl X)] 39)
      have Q1 := (HQ.out.upd hU1 (by simp)).alloc (.cells #[.int .i64 (wh X), .int .u64 (wl X)] 39)
      have N1 := HB.new w1 39 [.int .i64 (wh X), .int .u64 (wl X)]
      have T1' := Lib.hid T1
      have N1' := Lib.hid N1
      have l1 := T1.l.cell (j := 0) rfl
      have qm0 := Q1.cell (j := 0) rfl
      have qm1 := Q1.cell (j := 1) rfl
      have HL1 := Lib.hid (show w.heap.size + 3 < w1.heap.size from Nat.lt_of_lt_of_le HT.out.lt hU1.size)
      clear hU1 T1 Q1 N1 pm0 pm1 l0 r0
      go_wp2_with fail
      refine (SC2.out _).mono ?_
      rintro e w2 ⟨rfl, hU2⟩
      obtain ⟨W3, hW3⟩ : ∃ W3, W3 = w2.alloc (.cells #[.int .i64 (wh R), .int .u64 (wl R)] 39) := ⟨_, rfl⟩
      have T2 : Four w a (wh b) (wl b) W3 := by rw [hW3]; exact (T1'.out.upd hU2).alloc _
      have N2 : HB W3 w1.heap.size 39 [.int .i64 (wh X), .int .u64 (wl X)] := by rw [hW3]; exact (N1'.out.upd hU2 (by simp)).alloc _
      have M2 : HB W3 w2.heap.size 39 [.int .i64 (wh R), .int .u64 (wl R)] := by rw [hW3]; exact HB.new w2 39 [.int .i64 (wh R), .int .u64 (wl R)]
      have T2' := Lib.hid T2
      have z0 := T2.z.cell (j := 0) rfl
      have z1 := T2.z.cell (j := 1) rfl
      have zf0 := T2.z.free 0
      have zf1 := T2.z.free 1
      have y0 := T2.y.cell (j := 0) rfl
      have y1 := T2.y.cell (j := 1) rfl
      have yf0 := T2.y.free 0
      have yf1 := T2.y.free 1
      have n0 := N2.cell (j := 0) rfl
      have n1 := N2.cell (j := 1) rfl
      have m0 := M2.cell (j := 0) rfl
      have m1 := M2.cell (j := 1) rfl
      have h12 : w1.heap.size < w2.heap.size := Nat.lt_of_lt_of_le N1'.out.lt hU2.size
      have h03 := HL1.out
      have e1 : ¬ (w2.heap.size = w.heap.size + 2) := by omega
      have e2 : ¬ (w2.heap.size = w.heap.size + 3) := by omega
      have e3 : ¬ (w1.heap.size = w.heap.size + 2) := by omega
      have e4 : ¬ (w1.heap.size = w.heap.size + 3) := by omega
      have e5 : ¬ (w.heap.size + 2 = w2.heap.size) := by omega
      have e6 : ¬ (w.heap.size + 3 = w2.heap.size) := by omega
      have e7 : ¬ (w.heap.size + 2 = w1.heap.size) := by omega
      have e8 : ¬ (w.heap.size + 3 = w1.heap.size) := by omega
      clear hU2 T2 N2 M2 l1 qm0 qm1 h12 h03
      go_wp2_with fail
      rw [← hW3]
      clear hW3
      go_region
      go_wp2
      have hz' := ((((T2'.out.z.set 0 (.int .i64 (wh X))).set 1 (.int .u64 (wl X))).setNe (p := ⟨w.heap.size + 3, 0, none⟩) (by dsimp only; omega) (.int .i64 (wh R))).setNe (p := ⟨w.heap.size + 3, 1, none⟩) (by dsimp only; omega) (.int .u64 (wl R))).drew
      have hy' := ((((T2'.out.y.setNe (p := ⟨w.heap.size + 2, 0, none⟩) (by dsimp only; omega) (.int .i64 (wh X))).setNe (p := ⟨w.heap.size + 2, 1, none⟩) (by dsimp only; omega) (.int .u64 (wl X))).set 0 (.int .i64 (wh R))).set 1 (.int .u64 (wl R))).drew
      have k0 := hz'.cell (j := 0) rfl
      have k1 := hz'.cell (j := 1) rfl
      have k2 := hy'.cell (j := 0) rfl
      have k3 := hy'.cell (j := 1) rfl
      refine bodyPost_ret (v := .tuple #[wide X, wide R, .int .i64 0]) ?_ rfl ⟨by rw [HX.out, HR.out], ?_⟩
      · simp [results, Tryz.f54, go_sem, k0, k1, k2, k3]
      · repeat (first | with_reducible exact T2'.out.u | with_reducible refine Upd.drew ?_ | (with_reducible refine Upd.setCell ?_ (.inr ?h) _; case h => (dsimp only; omega)))
end Go.Proofs.YthbjpoiolmlpmaaGreatDoor
