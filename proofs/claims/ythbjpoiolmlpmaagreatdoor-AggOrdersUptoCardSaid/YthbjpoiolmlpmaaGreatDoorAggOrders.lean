/- AggOrders: neighbours change places. -/
import Derived.Test.YthbjpoiolmlpmaaGreatDoorToldC
import Derived.Test.YthbjpoiolmlpmaaGreatDoorRel
import Derived.Test.YthbjpoiolmlpmaaGreatDoorRowSet
import Derived.Test.YthbjpoiolmlpmaaGreatDoorAgLaw5
import Derived.Test.YthbjpoiolmlpmaaGreatDoorSameW
import Derived.Deep.CutRange
set_option linter.unusedVariables false
set_option linter.unusedSimpArgs false
namespace Go.Proofs.YthbjpoiolmlpmaaGreatDoor
open Go.RowKit
abbrev TRow : TypeId := 32
theorem rowC_len (p : KE) : (rowC p).length = 9 := rfl
theorem rowC_one (rows : List KE) : ∀ u ∈ rows.flatMap rowC, u.oneCell' = true := by
  intro u hu
  obtain ⟨p, _, hp⟩ := List.mem_flatMap.1 hu
  simp only [rowC, evC, List.mem_cons, List.not_mem_nil, or_false] at hp
  rcases hp with rfl | rfl | rfl | rfl | rfl | rfl | rfl | rfl | rfl <;> rfl
theorem infoRow : (Tryz.prog.info? TRow).map (fun i => (i.zero, i.size, i.bytes)) = some (some (.agg #[.int .i64 0, .string .empty, .int .i64 0, .int .i64 0, .bool false, .string .empty, .int .i64 0, .bool false, .int .i64 0]), 9, 88) := by kernel_rfl
def zR : List Value := [.int .i64 0, .string ⟨#[]⟩, .int .i64 0, .int .i64 0, .bool false, .string ⟨#[]⟩, .int .i64 0, .bool false, .int .i64 0]
theorem split2 {α : Type} (l : List α) (k : Nat) (p q : α) (hp : l[k]? = some p) (hq : l[k + 1]? = some q) : l = l.take k ++ p :: q :: l.drop (k + 2) := by
  obtain ⟨hk, rfl⟩ := List.getElem?_eq_some_iff.1 hp
  obtain ⟨hk1, rfl⟩ := List.getElem?_eq_some_iff.1 hq
  rw [← List.drop_eq_getElem_cons hk1, ← List.drop_eq_getElem_cons hk, List.take_append_drop]
theorem swap2 {α : Type} (l : List α) (k : Nat) (p q : α) (hk : k + 1 < l.length) : (l.set k q).set (k + 1) p = l.take k ++ q :: p :: l.drop (k + 2) := by
  have e : l = l.take k ++ l[k] :: l[k + 1] :: l.drop (k + 2) := split2 l k _ _ (List.getElem?_eq_getElem (by omega)) (List.getElem?_eq_getElem hk)
  have h1 : (l.take k).length = k := by rw [List.length_take]; omega
  generalize l.take k = a at *
  generalize l.drop (k + 2) = b at *
  generalize l[k] = x at *
  generalize l[k + 1] = y at *
  subst e h1
  simp
theorem RowK.own2 {α : Type} {w : World} {F : Nat → Prop} {enc : α → List Value} {k : Nat} {v : Value} {xs : List α} (h : RowK w F enc k v xs) : RowK w (fun b => v.ownBlock = some b) enc k v xs := by
  obtain ⟨A, c, rfl, h2, h3, h4, h5⟩ := h
  refine ⟨A, c, rfl, h2, h3, h4, fun i x hx => ?_⟩
  obtain ⟨b, o, rfl, _, hc⟩ := h5 i x hx
  exact ⟨b, o, rfl, rfl, hc⟩
theorem okRows_swap {a b : List KE} {p q : KE} (h : okRows (a ++ p :: q :: b)) : okRows (a ++ q :: p :: b) := by
  obtain ⟨h1, h2⟩ := h
  refine ⟨by simp only [List.length_append, List.length_cons] at *; omega, fun x hx => h2 x ?_⟩
  simp only [List.mem_append, List.mem_cons] at *
  rcases hx with h | h | h | h
  · exact .inl h
  · exact .inr (.inr (.inl h))
  · exact .inr (.inl h)
  · exact .inr (.inr (.inr h))
set_option maxHeartbeats 8000000 in
set_option maxRecDepth 200000 in
theorem orders_calls (rows : List KE) (v : Value) (at_ : Int) (F : Nat → Prop) (w : World) (hR : RowK w F rowC 9 v rows) (hF : ∀ b, F b → b < w.heap.size) (hok : okRows rows) (hM : MaxL w) :
    Calls Tryz.prog 3 #[v, .int .i64 at_] w fun e w' => e = .returned (.bool true) ∧ Upd [] w w' := by
  have HR := Lib.hid hR
  have HOK := Lib.hid hok
  have HT := Lib.hid (told_calls rows v F w hR hF hok hM)
  obtain ⟨A, c, rfl, hlc, hcm, _⟩ := hR.shape
  have hm : rows.length ≤ 1048576 := hok.1
  have HF := Lib.hid hF
  have HLC := Lib.hid hlc
  clear hR hok hlc hcm hF
  go_enter Tryz.func3, Tryz.ntmps3
  go_wp2_with fail
  refine HT.out.mono ?_
  rintro e w1 ⟨va, cw, A1, rfl, hC, hW, hU⟩
  obtain ⟨Ax, cx, rfl, _, _, _⟩ := own_shape hW.row
  have HC := Lib.hid hC
  have HW := Lib.hid hW
  have HU := Lib.hid hU
  have HAW := Lib.hid (awake_calls w1 (hM.upd0 hU) (by have := hU.size; have := hM.pos; omega))
  clear hC hW hU
  go_wp2_with fail
  refine HAW.out.mono ?_
  rintro e w2 ⟨rfl, hU2⟩
  have HU2 := Lib.hid (HU.out.then hU2)
  have HW2 := Lib.hid (HW.out.upd hU2 (by simp) (by simp))
  clear hU2
  by_cases h2 : rows.length < 2
  · have d2 : decide (rows.length < 2) = true := decide_eq_true h2
    have d3 : decide ((rows.length : Int) < 2) = true := decide_eq_true (by omega)
    have dl : decide (cw.length ≤ 1) = true := decide_eq_true (by have := few_law HC.out; rw [List.length_map] at this; omega)
    have dl2 : decide ((cw.length : Int) ≤ 1) = true := by have := of_decide_eq_true dl; exact decide_eq_true (by omega)
    clear h2
    go_wp2
    go_ret
    exact ⟨rfl, HU2.out⟩
  · have d2 : decide (rows.length < 2) = false := decide_eq_false h2
    have d3 : decide ((rows.length : Int) < 2) = false := decide_eq_false (by omega)
    have H2 := Lib.hid h2
    have hnz : ¬ (IntKind.u64.wrap ((rows.length : Int) - 1) = 0) := by rw [IntKind.wrap_u64]; omega
    clear h2
    go_upto_region 7 with fail
    rw [show IntKind.u64.wrap ((rows.length : Int) - 1) = (rows.length : Int) - 1 by rw [IntKind.wrap_u64]; have := H2.out; omega]
    obtain ⟨K, hK⟩ : ∃ K, K = wrap64 ((IntKind.u64.wrap at_).tmod ((rows.length : Int) - 1)) := ⟨_, rfl⟩
    rw [← hK]
    clear hnz
    obtain ⟨k, hkk, hkn⟩ : ∃ k : Nat, K = k ∧ k + 1 < rows.length := by
      have hn := H2.out
      have h0 : 0 ≤ IntKind.u64.wrap at_ := by rw [IntKind.wrap_u64]; omega
      have h1 : (IntKind.u64.wrap at_).tmod ((rows.length : Int) - 1) = (IntKind.u64.wrap at_) % ((rows.length : Int) - 1) := Int.tmod_eq_emod_of_nonneg h0
      have h3 := Int.emod_nonneg (IntKind.u64.wrap at_) (b := (rows.length : Int) - 1) (by omega)
      have h4 := Int.emod_lt_of_pos (IntKind.u64.wrap at_) (b := (rows.length : Int) - 1) (by omega)
      rw [h1] at hK
      generalize (IntKind.u64.wrap at_) % ((rows.length : Int) - 1) = m at *
      have h5 : K = m := by rw [hK]; unfold wrap64; omega
      exact ⟨m.toNat, by omega, by omega⟩
    subst hkk
    clear hK
    obtain ⟨p, hp⟩ : ∃ p, rows[k]? = some p := ⟨rows[k], List.getElem?_eq_getElem (by omega)⟩
    obtain ⟨q, hq⟩ : ∃ q, rows[k + 1]? = some q := ⟨rows[k + 1], List.getElem?_eq_getElem hkn⟩
    obtain ⟨b, o, rfl, hb, hf⟩ := HR.out.at_ hp
    obtain ⟨b', o', he, _, hf2⟩ := HR.out.at_ hq
    injection he with he
    injection he with he1 he2
    subst he1 he2
    have HP := Lib.hid hp
    have HQ := Lib.hid hq
    obtain ⟨i1, e1⟩ := p
    obtain ⟨i2, e2⟩ := q
    have hkx : k + 1 < 9223372036854775808 := by omega
    have dk : decide (k < rows.length) = true := decide_eq_true (by omega)
    have dk2 : decide (k + 1 < rows.length) = true := decide_eq_true hkn
    have x0 := fun z : Wd [] w2 => (HU2.out.then z.h).cell (hf 0 (.int .i64 i1) rfl) (by simp)
    have x1 := fun z : Wd [] w2 => (HU2.out.then z.h).cell (hf 1 (.string e1.name) rfl) (by simp)
    have x2 := fun z : Wd [] w2 => (HU2.out.then z.h).cell (hf 2 (.int .i64 e1.kind) rfl) (by simp)
    have x3 := fun z : Wd [] w2 => (HU2.out.then z.h).cell (hf 3 (.int .i64 e1.value) rfl) (by simp)
    have x4 := fun z : Wd [] w2 => (HU2.out.then z.h).cell (hf 4 (.bool e1.delta) rfl) (by simp)
    have x5 := fun z : Wd [] w2 => (HU2.out.then z.h).cell (hf 5 (.string e1.member) rfl) (by simp)
    have x6 := fun z : Wd [] w2 => (HU2.out.then z.h).cell (hf 6 (.int .i64 e1.rate) rfl) (by simp)
    have x7 := fun z : Wd [] w2 => (HU2.out.then z.h).cell (hf 7 (.bool e1.timed) rfl) (by simp)
    have x8 := fun z : Wd [] w2 => (HU2.out.then z.h).cell (hf 8 (.int .i64 e1.time) rfl) (by simp)
    have y0 := fun z : Wd [] w2 => (HU2.out.then z.h).cell (hf2 0 (.int .i64 i2) rfl) (by simp)
    have y1 := fun z : Wd [] w2 => (HU2.out.then z.h).cell (hf2 1 (.string e2.name) rfl) (by simp)
    have y2 := fun z : Wd [] w2 => (HU2.out.then z.h).cell (hf2 2 (.int .i64 e2.kind) rfl) (by simp)
    have y3 := fun z : Wd [] w2 => (HU2.out.then z.h).cell (hf2 3 (.int .i64 e2.value) rfl) (by simp)
    have y4 := fun z : Wd [] w2 => (HU2.out.then z.h).cell (hf2 4 (.bool e2.delta) rfl) (by simp)
    have y5 := fun z : Wd [] w2 => (HU2.out.then z.h).cell (hf2 5 (.string e2.member) rfl) (by simp)
    have y6 := fun z : Wd [] w2 => (HU2.out.then z.h).cell (hf2 6 (.int .i64 e2.rate) rfl) (by simp)
    have y7 := fun z : Wd [] w2 => (HU2.out.then z.h).cell (hf2 7 (.bool e2.timed) rfl) (by simp)
    have y8 := fun z : Wd [] w2 => (HU2.out.then z.h).cell (hf2 8 (.int .i64 e2.time) rfl) (by simp)
    simp only [Nat.add_zero] at x0 y0
    clear hf hf2 hp hq hb
    go_cut [8, 9] from 38 to 46 (fun t8 t9 wc => ∃ bp bq, t8 = .pointer (some ⟨bp, 0, none⟩) ∧ t9 = .pointer (some ⟨bq, 0, none⟩) ∧ HB wc bp TRow (rowC (i1, e1)) ∧ HB wc bq TRow (rowC (i2, e2)) ∧ Upd [] w2 wc)
    case first =>
      refine mix_start (n := 13) 13 (fun w' => ∃ p : Wd [] w2, w' = p.v) (by kernel_rfl) (by kernel_rfl) ?_
      refine mix_quiet [true, true, true, true, true, true, true, true, true] 4 rfl (by kernel_rfl) (by kernel_rfl) (by kernel_rfl) (by kernel_rfl) ⟨⟨_, (Upd.refl [] w2).drew⟩, rfl⟩ ?_
      simp only [maskL]
      repeat (go_big_quiet_step (fail))
      refine wpQuiet_nil ?_
      refine mix_two 9 10 (by kernel_rfl) (by kernel_rfl) (by kernel_rfl) rfl rfl ?_ ?_
      · intro K QF hK
        go_wp2_with fail
        refine hK _ _ ⟨⟨_, (((Upd.refl [] w2).alloc _).drew)⟩, rfl⟩ ?_
        clear hK K QF
        refine mix_one 10 (by kernel_rfl) (by kernel_rfl) rfl ?_
        intro K QF hK
        go_wp2_with fail
        refine hK _ _ ⟨⟨_, ((((Upd.refl [] w2).alloc _).alloc _).drew)⟩, rfl⟩ ?_
        clear hK K QF
        have hA := ((HB.new w2 TRow zR).alloc (.cells zR.toArray TRow))
        unfold zR at hA
        have t0 := hA.cell (j := 0) rfl
        have f0 := hA.free 0
        have t1 := hA.cell (j := 1) rfl
        have f1 := hA.free 1
        have t2 := hA.cell (j := 2) rfl
        have f2 := hA.free 2
        have t3 := hA.cell (j := 3) rfl
        have f3 := hA.free 3
        have t4 := hA.cell (j := 4) rfl
        have f4 := hA.free 4
        have t5 := hA.cell (j := 5) rfl
        have f5 := hA.free 5
        have t6 := hA.cell (j := 6) rfl
        have f6 := hA.free 6
        have t7 := hA.cell (j := 7) rfl
        have f7 := hA.free 7
        have t8 := hA.cell (j := 8) rfl
        have f8 := hA.free 8
        clear hA
        refine mix_one 11 (by kernel_rfl) (by kernel_rfl) rfl ?_
        intro K QF hK
        go_wp2_with fail
        refine hK _ _ ⟨⟨_, ((((Upd.refl [] w2).alloc _).alloc _).drew)⟩, rfl⟩ ?_
        clear hK K QF
        clear t0 t1 t2 t3 t4 t5 t6 t7 t8 f0 f1 f2 f3 f4 f5 f6 f7 f8
        have hA := (HB.new1 w2 (.cells (rowC (i1, e1)).toArray TRow) TRow zR)
        unfold zR rowC evC at hA
        have t0 := hA.cell (j := 0) rfl
        have f0 := hA.free 0
        have t1 := hA.cell (j := 1) rfl
        have f1 := hA.free 1
        have t2 := hA.cell (j := 2) rfl
        have f2 := hA.free 2
        have t3 := hA.cell (j := 3) rfl
        have f3 := hA.free 3
        have t4 := hA.cell (j := 4) rfl
        have f4 := hA.free 4
        have t5 := hA.cell (j := 5) rfl
        have f5 := hA.free 5
        have t6 := hA.cell (j := 6) rfl
        have f6 := hA.free 6
        have t7 := hA.cell (j := 7) rfl
        have f7 := hA.free 7
        have t8 := hA.cell (j := 8) rfl
        have f8 := hA.free 8
        clear hA
        refine mix_one 12 (by kernel_rfl) (by kernel_rfl) rfl ?_
        intro K QF hK
        go_wp2_with fail
        refine hK _ _ ⟨⟨_, ((((Upd.refl [] w2).alloc _).alloc _).drew)⟩, rfl⟩ ?_
        clear hK K QF
        clear t0 t1 t2 t3 t4 t5 t6 t7 t8 f0 f1 f2 f3 f4 f5 f6 f7 f8
        refine mix_end (by kernel_rfl) ?_
        go_wp2_with fail
        go_meet
        exact ⟨w2.heap.size, (w2.heap.size + 1), rfl, rfl, ((HB.new w2 TRow (rowC (i1, e1))).alloc _), (HB.new1 w2 _ TRow (rowC (i2, e2))), (((Upd.refl [] w2).alloc _).alloc _).drew⟩
      · intro K QF hK
        go_wp2_with fail
        refine hK _ _ ⟨⟨_, (((Upd.refl [] w2).alloc _).drew)⟩, rfl⟩ ?_
        clear hK K QF
        refine mix_one 9 (by kernel_rfl) (by kernel_rfl) rfl ?_
        intro K QF hK
        go_wp2_with fail
        refine hK _ _ ⟨⟨_, ((((Upd.refl [] w2).alloc _).alloc _).drew)⟩, rfl⟩ ?_
        clear hK K QF
        have hA := (HB.new1 w2 (.cells zR.toArray TRow) TRow zR)
        unfold zR at hA
        have t0 := hA.cell (j := 0) rfl
        have f0 := hA.free 0
        have t1 := hA.cell (j := 1) rfl
        have f1 := hA.free 1
        have t2 := hA.cell (j := 2) rfl
        have f2 := hA.free 2
        have t3 := hA.cell (j := 3) rfl
        have f3 := hA.free 3
        have t4 := hA.cell (j := 4) rfl
        have f4 := hA.free 4
        have t5 := hA.cell (j := 5) rfl
        have f5 := hA.free 5
        have t6 := hA.cell (j := 6) rfl
        have f6 := hA.free 6
        have t7 := hA.cell (j := 7) rfl
        have f7 := hA.free 7
        have t8 := hA.cell (j := 8) rfl
        have f8 := hA.free 8
        clear hA
        refine mix_one 11 (by kernel_rfl) (by kernel_rfl) rfl ?_
        intro K QF hK
        go_wp2_with fail
        refine hK _ _ ⟨⟨_, ((((Upd.refl [] w2).alloc _).alloc _).drew)⟩, rfl⟩ ?_
        clear hK K QF
        clear t0 t1 t2 t3 t4 t5 t6 t7 t8 f0 f1 f2 f3 f4 f5 f6 f7 f8
        have hA := ((HB.new w2 TRow zR).alloc (.cells (rowC (i1, e1)).toArray TRow))
        unfold zR rowC evC at hA
        have t0 := hA.cell (j := 0) rfl
        have f0 := hA.free 0
        have t1 := hA.cell (j := 1) rfl
        have f1 := hA.free 1
        have t2 := hA.cell (j := 2) rfl
        have f2 := hA.free 2
        have t3 := hA.cell (j := 3) rfl
        have f3 := hA.free 3
        have t4 := hA.cell (j := 4) rfl
        have f4 := hA.free 4
        have t5 := hA.cell (j := 5) rfl
        have f5 := hA.free 5
        have t6 := hA.cell (j := 6) rfl
        have f6 := hA.free 6
        have t7 := hA.cell (j := 7) rfl
        have f7 := hA.free 7
        have t8 := hA.cell (j := 8) rfl
        have f8 := hA.free 8
        clear hA
        refine mix_one 12 (by kernel_rfl) (by kernel_rfl) rfl ?_
        intro K QF hK
        go_wp2_with fail
        refine hK _ _ ⟨⟨_, ((((Upd.refl [] w2).alloc _).alloc _).drew)⟩, rfl⟩ ?_
        clear hK K QF
        clear t0 t1 t2 t3 t4 t5 t6 t7 t8 f0 f1 f2 f3 f4 f5 f6 f7 f8
        refine mix_end (by kernel_rfl) ?_
        go_wp2_with fail
        go_meet
        exact ⟨(w2.heap.size + 1), w2.heap.size, rfl, rfl, (HB.new1 w2 _ TRow (rowC (i1, e1))), ((HB.new w2 TRow (rowC (i2, e2))).alloc _), (((Upd.refl [] w2).alloc _).alloc _).drew⟩
    case rest =>
    obtain ⟨bp, bq, rfl, rfl, hbp, hbq, hU3⟩ := hcut
    have HBP := Lib.hid hbp
    have HBQ := Lib.hid hbq
    have HU3 := Lib.hid (HU2.out.then hU3)
    have HW3 := Lib.hid (HW2.out.upd hU3 (by simp) (by simp))
    clear hbp hbq hU3 x0 x1 x2 x3 x4 x5 x6 x7 x8 y0 y1 y2 y3 y4 y5 y6 y7 y8
    go_upto_region 8 with fail
    go_cut [72] from 47 to 71 (fun s72 wx => s72 = .bool (decide (e1.kind = 2) && decide (e2.kind = 2) && decide (e1.name = e2.name) && decide (i1 = i2)) ∧ Upd [] wc wx)
    case first =>
      have p0 := HBP.out.cell (j := 0) rfl
      have p1 := HBP.out.cell (j := 1) rfl
      have p2 := HBP.out.cell (j := 2) rfl
      have q0 := HBQ.out.cell (j := 0) rfl
      have q1 := HBQ.out.cell (j := 1) rfl
      have q2 := HBQ.out.cell (j := 2) rfl
      by_cases h1 : e1.kind = 2
      · have d1 : (e1.kind == 2) = true := by simpa using h1
        by_cases h2 : e2.kind = 2
        · have d2' : (e2.kind == 2) = true := by simpa using h2
          by_cases h3 : e1.name = e2.name
          · have d3 : e1.name.toList = e2.name.toList := by rw [h3]
            have HG := Lib.hid (show (decide (e1.kind = 2) && decide (e2.kind = 2) && decide (e1.name = e2.name) && decide (i1 = i2)) = (i1 == i2) by rw [h1, h2, h3]; by_cases h4 : i1 = i2 <;> simp [h4])
            clear h1 h2 h3
            go_wp2_with fail
            go_meet
            exact ⟨by rw [HG.out], by repeat (first | exact Upd.refl _ _ | assumption | apply Upd.drewN | apply Upd.drew | apply Upd.alloc)⟩
          · have d3 : ¬ e1.name.toList = e2.name.toList := fun e => h3 (toList_inj.1 e)
            have HG := Lib.hid (show (decide (e1.kind = 2) && decide (e2.kind = 2) && decide (e1.name = e2.name) && decide (i1 = i2)) = false by simp [h3])
            clear h1 h2 h3
            go_wp2_with fail
            go_meet
            exact ⟨by rw [HG.out], by repeat (first | exact Upd.refl _ _ | assumption | apply Upd.drewN | apply Upd.drew | apply Upd.alloc)⟩
        · have d2' : (e2.kind == 2) = false := by simpa using h2
          go_wp2_with fail
          go_meet
          exact ⟨by simp [h1, h2], by repeat (first | exact Upd.refl _ _ | assumption | apply Upd.drewN | apply Upd.drew | apply Upd.alloc)⟩
      · have d1 : (e1.kind == 2) = false := by simpa using h1
        go_wp2_with fail
        go_meet
        exact ⟨by simp [h1], by repeat (first | exact Upd.refl _ _ | assumption | apply Upd.drewN | apply Upd.drew | apply Upd.alloc)⟩
    case rest =>
    obtain ⟨rfl, hU4⟩ := hcut
    obtain ⟨G, hG⟩ : ∃ G, G = (decide (e1.kind = 2) && decide (e2.kind = 2) && decide (e1.name = e2.name) && decide (i1 = i2)) := ⟨_, rfl⟩
    rw [← hG]
    have HG := Lib.hid hG
    have HU4 := Lib.hid (HU3.out.then hU4)
    have HW4 := Lib.hid (HW3.out.upd hU4 (by simp) (by simp))
    have HBP4 := Lib.hid (HBP.out.upd hU4 (by simp))
    have HBQ4 := Lib.hid (HBQ.out.upd hU4 (by simp))
    clear hU4 hG
    cases G
    case true =>
      go_wp2
      go_ret
      exact ⟨rfl, HU4.out⟩
    case false =>
      have HRW := Lib.hid (HR.out.upd0 (HU4.out.alloc (.cells #[] TRow)))
      have HOE := Lib.hid (own_empty wc w.heap.size TRow 9 HU4.out.size)
      have HSB := Lib.hid (HU4.out.alloc (.cells #[] TRow)).size
      go_wp2_with (at_builtin; go_must (refine wp_appendN w.heap.size 22 TRow _ 9 88 (.slice (some ⟨wc.heap.size, 0, none⟩) 0 0) 0 [] (some ⟨b, o, none⟩) rows.length c (rows.flatMap rowC) rfl rfl (by kernel_rfl) infoRow rfl (by decide) (by decide) rfl rfl (by simp) HLC.out (flat_length rowC 9 rowC_len rows) (row_news rowC rowC_len (by decide) HRW.out) (rowC_one rows) HOE.out HSB.out (by omega) ?_))
      intro v1 w4 hown4 hU5 hat4
      obtain ⟨B, cB, rfl, _, _, _⟩ := own_shape hown4
      obtain ⟨gB, rfl, _, hge⟩ := own_cell hown4 (k * 9 + 0) (.int .i64 i1) (flatMap_get rowC rowC_len rows k (i1, e1) HP.out 0 _ rfl)
      have hgB : wc.heap.size ≤ gB := by
        rcases hat4 with h | ⟨b2, h, hb2⟩
        · simp [Value.ownBlock] at h
          omega
        · simp [Value.ownBlock] at h
          omega
      have hbpl := HBP4.out.lt
      have hbql := HBQ4.out.lt
      have HBP5 := Lib.hid ((HBP4.out.alloc (.cells #[] TRow)).upd hU5 (by simp [Value.ownBlock]; omega))
      have HBQ5 := Lib.hid ((HBQ4.out.alloc (.cells #[] TRow)).upd hU5 (by simp [Value.ownBlock]; omega))
      have HU5 := Lib.hid (show Upd [] w w4 from (HU4.out.alloc (.cells #[] TRow)).trans hU5 (fun _ h => h) (fun i hi => .inr (by simp [Value.ownBlock] at hi; have := HU4.out.size; omega)))
      have HOW := Lib.hid hown4
      have HGB := Lib.hid (show bp ≠ gB ∧ bq ≠ gB from ⟨by omega, by omega⟩)
      have HGW := Lib.hid (show w.heap.size ≤ gB from hge)
      have HGX := Lib.hid (show (∀ g, (Value.slice Ax cw.length cx).ownBlock = some g → g ≠ gB) ∧ (∀ b ∈ cw.flatMap WCL.bl, b ≠ gB) from by
        refine ⟨fun g hg e => ?_, fun b hb e => ?_⟩
        · have := own_lt HW4.out.row g hg
          omega
        · obtain ⟨d, hd, hbm⟩ := List.mem_flatMap.1 hb
          have := (HW4.out.wins d hd).lt (Nat.le_refl _) b hbm
          omega)
      have HW5 := Lib.hid (show WinsAt w4 w.heap.size w.heap.size (.slice Ax cw.length cx) cw from by
        have h1 := HW4.out.upd ((Upd.refl [] wc).alloc (.cells #[] TRow)) (by simp) (by simp)
        refine h1.upd hU5 (fun g hg hm => ?_) (fun b hb hm => ?_)
        · have := own_lt HW4.out.row g hg
          simp [Value.ownBlock] at hm
          omega
        · obtain ⟨d, hd, hbm⟩ := List.mem_flatMap.1 hb
          have := (HW4.out.wins d hd).lt (Nat.le_refl _) b hbm
          simp [Value.ownBlock] at hm
          omega)
      clear hown4 hU5 hat4 hgB hbpl hbql hge
      go_upto_region 11 with fail
      go_cut [] from 76 to 84 (fun wx => wx.ownsRow w.heap.size TRow 9 (.slice (some ⟨gB, 0, none⟩) rows.length cB) rows.length (((rows.set k (i2, e2)).set (k + 1) (i1, e1)).flatMap rowC) ∧ Upd [gB] w4 wx)
      case first =>
        have a0 := fun z : Wd [gB] w4 => z.h.cell (HBP5.out.cell (j := 0) rfl) (by simp; exact HGB.out.1)
        have a1 := fun z : Wd [gB] w4 => z.h.cell (HBP5.out.cell (j := 1) rfl) (by simp; exact HGB.out.1)
        have a2 := fun z : Wd [gB] w4 => z.h.cell (HBP5.out.cell (j := 2) rfl) (by simp; exact HGB.out.1)
        have a3 := fun z : Wd [gB] w4 => z.h.cell (HBP5.out.cell (j := 3) rfl) (by simp; exact HGB.out.1)
        have a4 := fun z : Wd [gB] w4 => z.h.cell (HBP5.out.cell (j := 4) rfl) (by simp; exact HGB.out.1)
        have a5 := fun z : Wd [gB] w4 => z.h.cell (HBP5.out.cell (j := 5) rfl) (by simp; exact HGB.out.1)
        have a6 := fun z : Wd [gB] w4 => z.h.cell (HBP5.out.cell (j := 6) rfl) (by simp; exact HGB.out.1)
        have a7 := fun z : Wd [gB] w4 => z.h.cell (HBP5.out.cell (j := 7) rfl) (by simp; exact HGB.out.1)
        have a8 := fun z : Wd [gB] w4 => z.h.cell (HBP5.out.cell (j := 8) rfl) (by simp; exact HGB.out.1)
        have c0 := fun z : Wd [gB] w4 => z.h.cell (HBQ5.out.cell (j := 0) rfl) (by simp; exact HGB.out.2)
        have c1 := fun z : Wd [gB] w4 => z.h.cell (HBQ5.out.cell (j := 1) rfl) (by simp; exact HGB.out.2)
        have c2 := fun z : Wd [gB] w4 => z.h.cell (HBQ5.out.cell (j := 2) rfl) (by simp; exact HGB.out.2)
        have c3 := fun z : Wd [gB] w4 => z.h.cell (HBQ5.out.cell (j := 3) rfl) (by simp; exact HGB.out.2)
        have c4 := fun z : Wd [gB] w4 => z.h.cell (HBQ5.out.cell (j := 4) rfl) (by simp; exact HGB.out.2)
        have c5 := fun z : Wd [gB] w4 => z.h.cell (HBQ5.out.cell (j := 5) rfl) (by simp; exact HGB.out.2)
        have c6 := fun z : Wd [gB] w4 => z.h.cell (HBQ5.out.cell (j := 6) rfl) (by simp; exact HGB.out.2)
        have c7 := fun z : Wd [gB] w4 => z.h.cell (HBQ5.out.cell (j := 7) rfl) (by simp; exact HGB.out.2)
        have c8 := fun z : Wd [gB] w4 => z.h.cell (HBQ5.out.cell (j := 8) rfl) (by simp; exact HGB.out.2)
        have hrow := HOW.out
        obtain ⟨_, ez, r0, _⟩ := own_cell hrow ((k) * 9 + 0) _ (flatMap_get rowC rowC_len _ (k) _ HP.out 0 _ rfl)
        injection ez with ez
        injection ez with ez
        subst ez
        have s0 := own_free hrow ((k) * 9 + 0)
        obtain ⟨_, ez, r1, _⟩ := own_cell hrow ((k) * 9 + 1) _ (flatMap_get rowC rowC_len _ (k) _ HP.out 1 _ rfl)
        injection ez with ez
        injection ez with ez
        subst ez
        have s1 := own_free hrow ((k) * 9 + 1)
        obtain ⟨_, ez, r2, _⟩ := own_cell hrow ((k) * 9 + 2) _ (flatMap_get rowC rowC_len _ (k) _ HP.out 2 _ rfl)
        injection ez with ez
        injection ez with ez
        subst ez
        have s2 := own_free hrow ((k) * 9 + 2)
        obtain ⟨_, ez, r3, _⟩ := own_cell hrow ((k) * 9 + 3) _ (flatMap_get rowC rowC_len _ (k) _ HP.out 3 _ rfl)
        injection ez with ez
        injection ez with ez
        subst ez
        have s3 := own_free hrow ((k) * 9 + 3)
        obtain ⟨_, ez, r4, _⟩ := own_cell hrow ((k) * 9 + 4) _ (flatMap_get rowC rowC_len _ (k) _ HP.out 4 _ rfl)
        injection ez with ez
        injection ez with ez
        subst ez
        have s4 := own_free hrow ((k) * 9 + 4)
        obtain ⟨_, ez, r5, _⟩ := own_cell hrow ((k) * 9 + 5) _ (flatMap_get rowC rowC_len _ (k) _ HP.out 5 _ rfl)
        injection ez with ez
        injection ez with ez
        subst ez
        have s5 := own_free hrow ((k) * 9 + 5)
        obtain ⟨_, ez, r6, _⟩ := own_cell hrow ((k) * 9 + 6) _ (flatMap_get rowC rowC_len _ (k) _ HP.out 6 _ rfl)
        injection ez with ez
        injection ez with ez
        subst ez
        have s6 := own_free hrow ((k) * 9 + 6)
        obtain ⟨_, ez, r7, _⟩ := own_cell hrow ((k) * 9 + 7) _ (flatMap_get rowC rowC_len _ (k) _ HP.out 7 _ rfl)
        injection ez with ez
        injection ez with ez
        subst ez
        have s7 := own_free hrow ((k) * 9 + 7)
        obtain ⟨_, ez, r8, _⟩ := own_cell hrow ((k) * 9 + 8) _ (flatMap_get rowC rowC_len _ (k) _ HP.out 8 _ rfl)
        injection ez with ez
        injection ez with ez
        subst ez
        have s8 := own_free hrow ((k) * 9 + 8)
        simp only [Nat.add_zero] at r0 s0
        clear hrow
        refine mix_start (n := 11) 11 (fun w' => ∃ p : Wd [gB] w4, w' = p.v) (by kernel_rfl) (by kernel_rfl) ?_
        refine mix_quiet [true, true, true, true, true, true, true, true] 3 rfl (by kernel_rfl) (by kernel_rfl) (by kernel_rfl) (by kernel_rfl) ⟨⟨_, (Upd.refl [gB] w4).drew⟩, rfl⟩ ?_
        simp only [maskL]
        repeat (go_big_quiet_step (fail))
        refine wpQuiet_nil ?_
        clear a0 a1 a2 a3 a4 a5 a6 a7 a8 c0 c1 c2 c3 c4 c5 c6 c7 c8
        refine mix_one 8 (by kernel_rfl) (by kernel_rfl) rfl ?_
        intro K QF hK
        go_wp2_with fail
        refine hK _ _ ⟨⟨_, ((((((((((Upd.refl [gB] w4).setCell (p := ⟨gB, k * 9, none⟩) (.inl (by simp)) (.int .i64 i2)).setCell (p := ⟨gB, k * 9 + 1, none⟩) (.inl (by simp)) (.string e2.name)).setCell (p := ⟨gB, k * 9 + 2, none⟩) (.inl (by simp)) (.int .i64 e2.kind)).setCell (p := ⟨gB, k * 9 + 3, none⟩) (.inl (by simp)) (.int .i64 e2.value)).setCell (p := ⟨gB, k * 9 + 4, none⟩) (.inl (by simp)) (.bool e2.delta)).setCell (p := ⟨gB, k * 9 + 5, none⟩) (.inl (by simp)) (.string e2.member)).setCell (p := ⟨gB, k * 9 + 6, none⟩) (.inl (by simp)) (.int .i64 e2.rate)).setCell (p := ⟨gB, k * 9 + 7, none⟩) (.inl (by simp)) (.bool e2.timed)).setCell (p := ⟨gB, k * 9 + 8, none⟩) (.inl (by simp)) (.int .i64 e2.time)).drew⟩, rfl⟩ ?_
        clear hK K QF
        clear r0 r1 r2 r3 r4 r5 r6 r7 r8 s0 s1 s2 s3 s4 s5 s6 s7 s8
        obtain ⟨X, hX⟩ : ∃ X, X = putAt w4 gB (k * 9) (rowC (i2, e2)) := ⟨_, rfl⟩
        have hrow := own_setRow rowC_len HOW.out k (i2, e2) (by omega)
        have hUX := putAt_upd (S := [gB]) (a := w4) (b := gB) (.inl (by simp)) (rowC (i2, e2)) w4 (k * 9) (Upd.refl _ _)
        rw [← hX] at hrow hUX
        simp only [putAt, rowC, evC, Nat.add_assoc, Nat.reduceAdd] at hX
        rw [← hX]
        clear hX
        have HR2 := Lib.hid hrow
        have HUX := Lib.hid hUX
        have hq2 : (rows.set k (i2, e2))[k + 1]? = some (i2, e2) := by rw [List.getElem?_set_ne (by omega)]; exact HQ.out
        obtain ⟨_, ez, r0, _⟩ := own_cell hrow ((k + 1) * 9 + 0) _ (flatMap_get rowC rowC_len _ (k + 1) _ hq2 0 _ rfl)
        injection ez with ez
        injection ez with ez
        subst ez
        have s0 := own_free hrow ((k + 1) * 9 + 0)
        obtain ⟨_, ez, r1, _⟩ := own_cell hrow ((k + 1) * 9 + 1) _ (flatMap_get rowC rowC_len _ (k + 1) _ hq2 1 _ rfl)
        injection ez with ez
        injection ez with ez
        subst ez
        have s1 := own_free hrow ((k + 1) * 9 + 1)
        obtain ⟨_, ez, r2, _⟩ := own_cell hrow ((k + 1) * 9 + 2) _ (flatMap_get rowC rowC_len _ (k + 1) _ hq2 2 _ rfl)
        injection ez with ez
        injection ez with ez
        subst ez
        have s2 := own_free hrow ((k + 1) * 9 + 2)
        obtain ⟨_, ez, r3, _⟩ := own_cell hrow ((k + 1) * 9 + 3) _ (flatMap_get rowC rowC_len _ (k + 1) _ hq2 3 _ rfl)
        injection ez with ez
        injection ez with ez
        subst ez
        have s3 := own_free hrow ((k + 1) * 9 + 3)
        obtain ⟨_, ez, r4, _⟩ := own_cell hrow ((k + 1) * 9 + 4) _ (flatMap_get rowC rowC_len _ (k + 1) _ hq2 4 _ rfl)
        injection ez with ez
        injection ez with ez
        subst ez
        have s4 := own_free hrow ((k + 1) * 9 + 4)
        obtain ⟨_, ez, r5, _⟩ := own_cell hrow ((k + 1) * 9 + 5) _ (flatMap_get rowC rowC_len _ (k + 1) _ hq2 5 _ rfl)
        injection ez with ez
        injection ez with ez
        subst ez
        have s5 := own_free hrow ((k + 1) * 9 + 5)
        obtain ⟨_, ez, r6, _⟩ := own_cell hrow ((k + 1) * 9 + 6) _ (flatMap_get rowC rowC_len _ (k + 1) _ hq2 6 _ rfl)
        injection ez with ez
        injection ez with ez
        subst ez
        have s6 := own_free hrow ((k + 1) * 9 + 6)
        obtain ⟨_, ez, r7, _⟩ := own_cell hrow ((k + 1) * 9 + 7) _ (flatMap_get rowC rowC_len _ (k + 1) _ hq2 7 _ rfl)
        injection ez with ez
        injection ez with ez
        subst ez
        have s7 := own_free hrow ((k + 1) * 9 + 7)
        obtain ⟨_, ez, r8, _⟩ := own_cell hrow ((k + 1) * 9 + 8) _ (flatMap_get rowC rowC_len _ (k + 1) _ hq2 8 _ rfl)
        injection ez with ez
        injection ez with ez
        subst ez
        have s8 := own_free hrow ((k + 1) * 9 + 8)
        simp only [Nat.add_zero] at r0 s0
        clear hrow hUX
        refine mix_quiet [false, false, false, false, false, false, false, false, false, true] 1 rfl (by kernel_rfl) (by kernel_rfl) (by kernel_rfl) (by kernel_rfl) ⟨⟨_, HUX.out.drew⟩, rfl⟩ ?_
        simp only [maskL]
        repeat (go_big_quiet_step (fail))
        refine wpQuiet_nil ?_
        refine mix_one 10 (by kernel_rfl) (by kernel_rfl) rfl ?_
        intro K QF hK
        go_wp2_with fail
        refine hK _ _ ⟨⟨_, (((((((((HUX.out.setCell (p := ⟨gB, (k + 1) * 9, none⟩) (.inl (by simp)) (.int .i64 i1)).setCell (p := ⟨gB, (k + 1) * 9 + 1, none⟩) (.inl (by simp)) (.string e1.name)).setCell (p := ⟨gB, (k + 1) * 9 + 2, none⟩) (.inl (by simp)) (.int .i64 e1.kind)).setCell (p := ⟨gB, (k + 1) * 9 + 3, none⟩) (.inl (by simp)) (.int .i64 e1.value)).setCell (p := ⟨gB, (k + 1) * 9 + 4, none⟩) (.inl (by simp)) (.bool e1.delta)).setCell (p := ⟨gB, (k + 1) * 9 + 5, none⟩) (.inl (by simp)) (.string e1.member)).setCell (p := ⟨gB, (k + 1) * 9 + 6, none⟩) (.inl (by simp)) (.int .i64 e1.rate)).setCell (p := ⟨gB, (k + 1) * 9 + 7, none⟩) (.inl (by simp)) (.bool e1.timed)).setCell (p := ⟨gB, (k + 1) * 9 + 8, none⟩) (.inl (by simp)) (.int .i64 e1.time)).drew⟩, rfl⟩ ?_
        clear hK K QF
        clear r0 r1 r2 r3 r4 r5 r6 r7 r8 s0 s1 s2 s3 s4 s5 s6 s7 s8
        obtain ⟨X2, hX2⟩ : ∃ X2, X2 = putAt X gB ((k + 1) * 9) (rowC (i1, e1)) := ⟨_, rfl⟩
        have hrow3 := own_setRow rowC_len HR2.out (k + 1) (i1, e1) (by rw [List.length_set]; omega)
        have hUX3 := putAt_upd (S := [gB]) (a := w4) (b := gB) (.inl (by simp)) (rowC (i1, e1)) X ((k + 1) * 9) HUX.out
        rw [← hX2] at hrow3 hUX3
        simp only [putAt, rowC, evC, Nat.add_assoc, Nat.reduceAdd] at hX2
        rw [← hX2]
        clear hX2
        refine mix_end (by kernel_rfl) ?_
        go_wp2_with fail
        go_meet
        exact ⟨hrow3, hUX3.drew⟩
      case rest =>
        obtain ⟨hrow, hUc⟩ := hcut
        have hgw := HGW.out
        have HU6 := Lib.hid (show Upd [] w wc from HU5.out.trans hUc (fun _ h => h) (fun i hi => .inr (by simp at hi; omega)))
        have HW6 := Lib.hid (HW5.out.upd hUc (fun g hg hm => HGX.out.1 g hg (by simpa using hm)) (fun b hb hm => HGX.out.2 b hb (by simpa using hm)))
        have hrk := (own_row rowC_len (by decide) hrow).2
        rw [swap2 rows k (i1, e1) (i2, e2) (by omega)] at hrk
        have hrk := hrk.own2
        have hsp := split2 rows k _ _ HP.out HQ.out
        have hok2 := HOK.out
        rw [hsp] at hok2
        have HT2 := Lib.hid (told_calls _ _ _ wc hrk (fun b hb => own_lt hrow b hb) (okRows_swap hok2) (hM.upd0 HU6.out))
        have HSP := Lib.hid hsp
        clear hrow hrk hUc hgw hok2 hsp
        go_wp2_with fail
        refine HT2.out.mono ?_
        rintro e w7 ⟨va2, cw2, A2, rfl, hC2, hW2, hU7⟩
        have HU7 := Lib.hid (HU6.out.then hU7)
        have HW7 := Lib.hid (HW6.out.upd hU7 (by simp) (by simp))
        have hC := HC.out
        rw [HSP.out] at hC
        have he := orders_law hC hC2 (fun h => by
          have h2 := HG.out
          obtain ⟨k1, k2, k3, k4⟩ := h
          simp only at k1 k2 k3 k4
          rw [k1, k2, k3, k4] at h2
          simp at h2)
        have HSW := Lib.hid (sameW_calls HW7.out hW2 he ((runE_ok rows).wf_close HOK.out.1 HC.out) (Nat.le_refl _) (Nat.le_refl _))
        clear hC hC2 hW2 hU7 he
        go_wp2_with fail
        refine HSW.out.mono ?_
        rintro e w8 ⟨rfl, hU8⟩
        have HU8 := Lib.hid (HU7.out.then hU8)
        clear hU8
        go_wp2
        go_ret
        exact ⟨rfl, HU8.out⟩
theorem aggOrders_calls (c0 : List Value) (x0 : GT.den (.slice gRow)) (c1 : List Value) (x1 : GT.den gI) (W : World) (h0 : Rd W (· < W.heap.size) (.slice gRow) c0 x0) (h1 : Rd W (· < W.heap.size) gI c1 x1) (hk : GT.bulk (.slice gRow) x0 + GT.bulk gI x1 ≤ 1048576) (hM : MaxL W) :
    Calls Tryz.prog 3 #[GT.val (.slice gRow) c0, GT.val gI c1] W fun e w' => e = .returned (.bool true) ∧ Upd [] W w' := by
  obtain ⟨v, rows, rfl, hR, hok, _⟩ := rd_rows h0 (by omega)
  obtain ⟨rfl, _⟩ := h1
  exact orders_calls rows v x1 _ W hR (fun b h => h) hok hM
end Go.Proofs.YthbjpoiolmlpmaaGreatDoor
