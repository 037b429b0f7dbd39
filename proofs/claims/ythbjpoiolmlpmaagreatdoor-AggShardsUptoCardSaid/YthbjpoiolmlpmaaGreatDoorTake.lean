/- agg's takers: take. -/
import Derived.Test.YthbjpoiolmlpmaaGreatDoorEvt
import Derived.Test.YthbjpoiolmlpmaaGreatDoorScale
import Derived.Test.YthbjpoiolmlpmaaGreatDoorMap
import Derived.Test.YthbjpoiolmlpmaaGreatDoorClone
import Derived.Test.YthbjpoiolmlpmaaGreatDoorOwnL
import Derived.Test.YthbjpoiolmlpmaaGreatDoorKeys
set_option linter.unusedVariables false
set_option linter.unusedSimpArgs false
namespace Go.Proofs.YthbjpoiolmlpmaaGreatDoor
open Go.RowKit
abbrev TCnt : TypeId := 118
abbrev TGau : TypeId := 121
abbrev TTim : TypeId := 124
abbrev TSet : TypeId := 128
set_option maxHeartbeats 2000000 in
theorem cnt_take (p : Nat) (n s : Int) (e : Ev) (w : World) (hB : HB w p TCnt [.int .i64 n, .int .i64 (wh s), .int .u64 (wl s)]) (hn : 0 ≤ n ∧ n ≤ 4194304)
    (hv : -1000000000000000 ≤ e.value ∧ e.value ≤ 1000000000000000) (hr : 1000 ≤ e.rate ∧ e.rate ≤ 1000000) (hs : I128 s) (hs2 : I128 (s + scl e.value e.rate)) :
    Calls Tryz.prog 161 #[.pointer (some ⟨p, 0, none⟩), .agg (evC e).toArray] w fun x w' => x = .returned (.tuple #[]) ∧
      HB w' p TCnt [.int .i64 (n + 1), .int .i64 (wh (s + scl e.value e.rate)), .int .u64 (wl (s + scl e.value e.rate))] ∧ Upd [p] w w' := by
  have hbd := scl_bd hv hr.1
  have HSC := Lib.hid (fun W => scale_calls e.value e.rate hv hr W)
  have HPL2 := Lib.hid (fun W => plus_calls s (scl e.value e.rate) hs (by unfold I64; omega) hs2 W)
  generalize scl e.value e.rate = x at *
  clear hv hr hs hs2 hbd
  have hU0 := (Upd.refl [] w).alloc (.cells (evC e).toArray TEv)
  have HE := Lib.hid (HB.new w TEv (evC e))
  have hne : p ≠ w.heap.size := by have := hB.lt; omega
  have HB0 := Lib.hid (hB.upd hU0 (by simp))
  have HU := Lib.hid hU0
  have HPL := Lib.hid hB.lt
  obtain ⟨nm, k, v, dl, mb, rt, td, ti⟩ := e
  dsimp only at *
  clear hU0 hB
  unfold evC at *
  dsimp only at *
  go_enter Tryz.func161, Tryz.ntmps161
  have c0 := HB0.out.cell (j := 0) rfl
  have f0 := HB0.out.free 0
  go_wp2_with fail
  refine (HSC.out _).mono ?_
  rintro y w1 ⟨rfl, hU1⟩
  have hst := HU.out.of0.setCell (S := [p]) (p := ⟨p, 0, none⟩) (.inl (by simp)) (.int .i64 (n + 1))
  have HU1 := Lib.hid (hst.then0 hU1)
  have hB1 := (HB0.out.set 0 (.int .i64 (n + 1))).upd hU1 (by simp)
  have HB1 := Lib.hid hB1
  have c1 := hB1.cell (j := 1) rfl
  have c2 := hB1.cell (j := 2) rfl
  clear hst hU1 hB1 c0 f0 HE HB0
  go_wp2_with fail
  refine (HPL2.out _).mono ?_
  rintro y w2 ⟨rfl, hU2⟩
  have HU2 := Lib.hid (HU1.out.then0 hU2)
  have hB2 := HB1.out.upd hU2 (by simp)
  have HB2 := Lib.hid hB2
  have z1 := hB2.cell (j := 1) rfl
  have z2 := hB2.cell (j := 2) rfl
  have f1 := hB2.free 1
  have f2 := hB2.free 2
  clear hU2 hB2 c1 c2 HB1
  go_wp2
  go_end0
  exact ⟨rfl, (HB2.out.set 1 (.int .i64 (wh (s + x)))).set 2 (.int .u64 (wl (s + x))), (HU2.out.setCell (p := ⟨p, 1, none⟩) (.inl (by simp)) _).setCell (p := ⟨p, 2, none⟩) (.inl (by simp)) _⟩
set_option maxHeartbeats 2000000 in
theorem gau_set (p : Nat) (n v0 : Int) (st : Bool) (e : Ev) (w : World) (hB : HB w p TGau [.int .i64 n, .bool st, .int .i64 (wh v0), .int .u64 (wl v0)]) (hn : 0 ≤ n ∧ n ≤ 4194304)
    (hv : -1000000000000000 ≤ e.value ∧ e.value ≤ 1000000000000000) (hd : e.delta = false) :
    Calls Tryz.prog 164 #[.pointer (some ⟨p, 0, none⟩), .agg (evC e).toArray] w fun x w' => x = .returned (.tuple #[]) ∧
      HB w' p TGau [.int .i64 (n + 1), .bool true, .int .i64 (wh e.value), .int .u64 (wl e.value)] ∧ Upd [p] w w' := by
  have HOF := Lib.hid (fun W => of_calls e.value (by unfold I64; omega) W)
  clear hv
  have hU0 := (Upd.refl [] w).alloc (.cells (evC e).toArray TEv)
  have HE := Lib.hid (HB.new w TEv (evC e))
  have hne : p ≠ w.heap.size := by have := hB.lt; omega
  have HB0 := Lib.hid (hB.upd hU0 (by simp))
  have HU := Lib.hid hU0
  have HPL := Lib.hid hB.lt
  obtain ⟨nm, k, v, dl, mb, rt, td, ti⟩ := e
  dsimp only at *
  clear hU0 hB
  subst hd
  unfold evC at *
  dsimp only at *
  go_enter Tryz.func164, Tryz.ntmps164
  have c0 := HB0.out.cell (j := 0) rfl
  have c1 := HB0.out.cell (j := 1) rfl
  have f0 := HB0.out.free 0
  have f1 := HB0.out.free 1
  go_wp2_with fail
  refine (HOF.out _).mono ?_
  rintro y w1 ⟨rfl, hU1⟩
  have hst := (HU.out.of0.setCell (S := [p]) (p := ⟨p, 0, none⟩) (.inl (by simp)) (.int .i64 (n + 1))).setCell (p := ⟨p, 1, none⟩) (.inl (by simp)) (.bool true)
  have HU1 := Lib.hid (hst.then0 hU1)
  have hB1 := ((HB0.out.set 0 (.int .i64 (n + 1))).set 1 (.bool true)).upd hU1 (by simp)
  have HB1 := Lib.hid hB1
  have z1 := hB1.cell (j := 2) rfl
  have z2 := hB1.cell (j := 3) rfl
  have g1 := hB1.free 2
  have g2 := hB1.free 3
  clear hst hU1 hB1 c0 f0 HE HB0 c1 f1
  go_wp2
  go_end0
  exact ⟨rfl, (HB1.out.set 2 (.int .i64 (wh v))).set 3 (.int .u64 (wl v)), (HU1.out.setCell (p := ⟨p, 2, none⟩) (.inl (by simp)) _).setCell (p := ⟨p, 3, none⟩) (.inl (by simp)) _⟩
set_option maxHeartbeats 2000000 in
theorem gau_move (p : Nat) (n v0 : Int) (st : Bool) (e : Ev) (w : World) (hB : HB w p TGau [.int .i64 n, .bool st, .int .i64 (wh v0), .int .u64 (wl v0)]) (hn : 0 ≤ n ∧ n ≤ 4194304)
    (hv : -1000000000000000 ≤ e.value ∧ e.value ≤ 1000000000000000) (hd : e.delta = true) (hs : I128 v0) (hs2 : I128 (v0 + e.value)) :
    Calls Tryz.prog 164 #[.pointer (some ⟨p, 0, none⟩), .agg (evC e).toArray] w fun x w' => x = .returned (.tuple #[]) ∧
      HB w' p TGau [.int .i64 (n + 1), .bool st, .int .i64 (wh (v0 + e.value)), .int .u64 (wl (v0 + e.value))] ∧ Upd [p] w w' := by
  have HPL2 := Lib.hid (fun W => plus_calls v0 e.value hs (by unfold I64; omega) hs2 W)
  clear hv hs hs2
  have hU0 := (Upd.refl [] w).alloc (.cells (evC e).toArray TEv)
  have HE := Lib.hid (HB.new w TEv (evC e))
  have hne : p ≠ w.heap.size := by have := hB.lt; omega
  have HB0 := Lib.hid (hB.upd hU0 (by simp))
  have HU := Lib.hid hU0
  have HPL := Lib.hid hB.lt
  obtain ⟨nm, k, v, dl, mb, rt, td, ti⟩ := e
  dsimp only at *
  clear hU0 hB
  subst hd
  unfold evC at *
  dsimp only at *
  go_enter Tryz.func164, Tryz.ntmps164
  have c0 := HB0.out.cell (j := 0) rfl
  have f0 := HB0.out.free 0
  go_wp2_with fail
  have HU1 := Lib.hid (HU.out.of0.setCell (S := [p]) (p := ⟨p, 0, none⟩) (.inl (by simp)) (.int .i64 (n + 1)))
  have HB1 := Lib.hid (HB0.out.set 0 (.int .i64 (n + 1)))
  have HE1 := Lib.hid (HE.out.setNe (p := ⟨p, 0, none⟩) (by simpa using hne.symm) (.int .i64 (n + 1)))
  clear c0 f0 HB0 HE HU
  generalize (w.alloc (.cells #[.string nm, .int .i64 k, .int .i64 v, .bool true, .string mb, .int .i64 rt, .bool td, .int .i64 ti] TEv)).setCell ⟨p, 0, none⟩ (.int .i64 (n + 1)) = W1 at *
  have c2 := fun q : Wd [] W1 => q.h.cell (HB1.out.cell (j := 2) rfl) (by simp)
  have c3 := fun q : Wd [] W1 => q.h.cell (HB1.out.cell (j := 3) rfl) (by simp)
  have e2 := fun q : Wd [] W1 => q.h.cell (HE1.out.cell (j := 2) rfl) (by simp)
  refine mix_start (n := 11) 8 (fun w' => ∃ p : Wd [] W1, w' = p.v) (by kernel_rfl) (by kernel_rfl) ?_
  refine mix_quiet [true, true, true, true, true, true, true] 4 rfl (by kernel_rfl) (by kernel_rfl) (by kernel_rfl) (by kernel_rfl) ⟨⟨_, (Upd.refl [] W1).drew⟩, rfl⟩ ?_
  simp only [maskL]
  repeat (go_big_quiet_step (fail))
  refine wpQuiet_nil ?_
  clear c2 c3 e2
  refine mix_one 7 (by kernel_rfl) (by kernel_rfl) rfl ?_
  intro K QF hK
  go_wp2_with fail
  refine (HPL2.out _).mono ?_
  rintro y w2 ⟨rfl, hU2⟩
  have HU2 := Lib.hid ((Upd.refl [] W1).drew.then hU2)
  clear hU2
  go_wp2_with fail
  refine hK _ _ ⟨⟨_, HU2.out⟩, rfl⟩ ?_
  clear hK K QF
  have hB2 := HB1.out.upd HU2.out (by simp)
  have HB2 := Lib.hid hB2
  have z1 := hB2.cell (j := 2) rfl
  have z2 := hB2.cell (j := 3) rfl
  have g1 := hB2.free 2
  have g2 := hB2.free 3
  clear hB2
  refine mix_tail (by kernel_rfl) (by kernel_rfl) ?_
  simp only [List.drop_succ_cons, List.drop_zero]
  go_wp2
  refine bodyPost_ret (results_none rfl _ _ _) rfl ?_
  exact ⟨rfl, (HB2.out.set 2 (.int .i64 (wh (v0 + v)))).set 3 (.int .u64 (wl (v0 + v))), ((HU1.out.then0 HU2.out).setCell (p := ⟨p, 2, none⟩) (.inl (by simp)) _).setCell (p := ⟨p, 3, none⟩) (.inl (by simp)) _⟩
set_option maxHeartbeats 4000000 in
theorem tim_take (p base : Nat) (s sw : Int) (xs : List Int) (sv : Value) (e : Ev) (w : World) (hB : HB w p TTim [.int .i64 (wh s), .int .u64 (wl s), .int .i64 (wh sw), .int .u64 (wl sw), sv])
    (ho : w.ownsRow base 2 1 sv xs.length (xs.map (Value.int .i64))) (hbase : base ≤ w.heap.size) (hn : xs.length ≤ 4194304)
    (hv : -1000000000000000 ≤ e.value ∧ e.value ≤ 1000000000000000) (hr : 1000 ≤ e.rate ∧ e.rate ≤ 1000000) (hs : I128 s) (hs2 : I128 (s + e.value)) (hw : I128 sw) (hw2 : I128 (sw + scl 1000000 e.rate)) :
    Calls Tryz.prog 166 #[.pointer (some ⟨p, 0, none⟩), .agg (evC e).toArray] w fun x w' => x = .returned (.tuple #[]) ∧ ∃ sv',
      HB w' p TTim [.int .i64 (wh (s + e.value)), .int .u64 (wl (s + e.value)), .int .i64 (wh (sw + scl 1000000 e.rate)), .int .u64 (wl (sw + scl 1000000 e.rate)), sv'] ∧
      w'.ownsRow base 2 1 sv' (xs.length + 1) ((xs ++ [e.value]).map (Value.int .i64)) ∧ (sv'.ownBlock = sv.ownBlock ∨ ∃ b, sv'.ownBlock = some b ∧ w.heap.size ≤ b) ∧ Upd (p :: sv.ownBlock.toList) w w' := by
  have hbd := scl_bd (v := 1000000) ⟨by omega, by omega⟩ hr.1
  have HSC := Lib.hid (fun W => scale_calls 1000000 e.rate ⟨by omega, by omega⟩ hr W)
  have HPA := Lib.hid (fun W => plus_calls s e.value hs (by unfold I64; omega) hs2 W)
  have HPB := Lib.hid (fun W => plus_calls sw (scl 1000000 e.rate) hw (by unfold I64; omega) hw2 W)
  generalize scl 1000000 e.rate = x at *
  obtain ⟨A, cA, rfl, _, _, _⟩ := own_shape ho
  have HO := Lib.hid ho
  have HPN := Lib.hid (own_notin' ho hB (by decide))
  have HVI := Lib.hid (show (Lit.int .i64 e.value).wf = true by simp [Lit.wf, IntKind.min, IntKind.max, IntKind.bits, IntKind.signed]; omega)
  clear hv hr hs hs2 hw hw2 hbd ho
  have hU0 := (Upd.refl [] w).alloc (.cells (evC e).toArray TEv)
  have HE := Lib.hid (HB.new w TEv (evC e))
  have hne : p ≠ w.heap.size := by have := hB.lt; omega
  have HB0 := Lib.hid (hB.upd hU0 (by simp))
  have HU := Lib.hid hU0
  have HPL := Lib.hid hB.lt
  obtain ⟨nm, k, v, dl, mb, rt, td, ti⟩ := e
  dsimp only at *
  clear hU0 hB
  have HO0 := Lib.hid (own_upd HO.out HU.out (by simp))
  have HSZ := Lib.hid (HU.out.size)
  clear HO
  unfold evC at *
  dsimp only at *
  go_enter Tryz.func166, Tryz.ntmps166
  go_wp2_with fail
  generalize hW0 : w.alloc (.cells #[.string nm, .int .i64 k, .int .i64 v, .bool dl, .string mb, .int .i64 rt, .bool td, .int .i64 ti] TEv) = W0 at *
  clear hW0
  have c0 := fun q : Wd [] W0 => q.h.cell (HB0.out.cell (j := 0) rfl) (by simp)
  have c1 := fun q : Wd [] W0 => q.h.cell (HB0.out.cell (j := 1) rfl) (by simp)
  have e2 := fun q : Wd [] W0 => q.h.cell (HE.out.cell (j := 2) rfl) (by simp)
  refine mix_start (n := 11) 8 (fun w' => ∃ p : Wd [] W0, w' = p.v) (by kernel_rfl) (by kernel_rfl) ?_
  refine mix_quiet [true, true, true, true, true, true, true] 4 rfl (by kernel_rfl) (by kernel_rfl) (by kernel_rfl) (by kernel_rfl) ⟨⟨_, (Upd.refl [] W0).drew⟩, rfl⟩ ?_
  simp only [maskL]
  repeat (go_big_quiet_step (fail))
  refine wpQuiet_nil ?_
  clear c0 c1 e2
  refine mix_one 7 (by kernel_rfl) (by kernel_rfl) rfl ?_
  intro K QF hK
  go_wp2_with fail
  refine (HPA.out _).mono ?_
  rintro y w1 ⟨rfl, hU1⟩
  have HU1 := Lib.hid ((Upd.refl [] W0).drew.then hU1)
  clear hU1
  go_wp2_with fail
  refine hK _ _ ⟨⟨_, HU1.out⟩, rfl⟩ ?_
  clear hK K QF
  have HB1 := Lib.hid (HB0.out.upd HU1.out (by simp))
  have HE1 := Lib.hid (HE.out.upd HU1.out (by simp))
  have HO1 := Lib.hid (own_upd HO0.out HU1.out (by simp))
  have z1 := HB1.out.cell (j := 0) rfl
  have z2 := HB1.out.cell (j := 1) rfl
  have g1 := HB1.out.free 0
  have g2 := HB1.out.free 1
  have ne1 : ¬ (w.heap.size = p) := fun h => hne h.symm
  have e5 := ((HE1.out.setNe (p := ⟨p, 0, none⟩) (by simpa using ne1) (.int .i64 (wh (s + v)))).setNe (p := ⟨p, 1, none⟩) (by simpa using ne1) (.int .u64 (wl (s + v)))).cell (j := 5) rfl
  refine mix_tail (by kernel_rfl) (by kernel_rfl) ?_
  simp only [List.drop_succ_cons, List.drop_zero]
  go_wp2_with fail
  have HB2 := Lib.hid ((HB1.out.set 0 (.int .i64 (wh (s + v)))).set 1 (.int .u64 (wl (s + v))))
  have HE2 := Lib.hid ((HE1.out.setNe (p := ⟨p, 0, none⟩) (by simpa using ne1) (.int .i64 (wh (s + v)))).setNe (p := ⟨p, 1, none⟩) (by simpa using ne1) (.int .u64 (wl (s + v))))
  have hst := ((Upd.refl [p] w1).setCell (p := ⟨p, 0, none⟩) (.inl (by simp)) (.int .i64 (wh (s + v)))).setCell (p := ⟨p, 1, none⟩) (.inl (by simp)) (.int .u64 (wl (s + v)))
  have HO2 := Lib.hid (own_upd HO1.out hst (fun g hg hm => HPN.out (by simp at hm; subst hm; simp [hg])))
  have HU2 := Lib.hid (((HU.out.then HU1.out).of0 (S := [p])).then hst)
  clear z1 z2 g1 g2 e5 HB1 HE1 HO1 hst HB0 HE HO0 HU1
  generalize (w1.setCell ⟨p, 0, none⟩ (.int .i64 (wh (s + v)))).setCell ⟨p, 1, none⟩ (.int .u64 (wl (s + v))) = w2 at *
  refine (HSC.out _).mono ?_
  rintro y w3 ⟨rfl, hU3⟩
  have HU3 := Lib.hid (HU2.out.then0 hU3)
  have HB3 := Lib.hid (HB2.out.upd hU3 (by simp))
  have HE3 := Lib.hid (HE2.out.upd hU3 (by simp))
  have HO3 := Lib.hid (own_upd HO2.out hU3 (by simp))
  have z3 := HB3.out.cell (j := 2) rfl
  have z4 := HB3.out.cell (j := 3) rfl
  clear hU3 HB2 HE2 HO2
  go_wp2_with fail
  refine (HPB.out _).mono ?_
  rintro y w4 ⟨rfl, hU4⟩
  have HU4 := Lib.hid (HU3.out.then0 hU4)
  have HB4 := Lib.hid (HB3.out.upd hU4 (by simp))
  have HE4 := Lib.hid (HE3.out.upd hU4 (by simp))
  have HO4 := Lib.hid (own_upd HO3.out hU4 (by simp))
  clear hU4 HB3 HE3 HO3 z3 z4
  have z3 := HB4.out.cell (j := 2) rfl
  have z4 := HB4.out.cell (j := 3) rfl
  have g3 := HB4.out.free 2
  have g4 := HB4.out.free 3
  go_wp2_with fail
  have hst := ((Upd.refl [p] w4).setCell (p := ⟨p, 2, none⟩) (.inl (by simp)) (.int .i64 (wh (sw + x)))).setCell (p := ⟨p, 3, none⟩) (.inl (by simp)) (.int .u64 (wl (sw + x)))
  have HB5 := Lib.hid ((HB4.out.set 2 (.int .i64 (wh (sw + x)))).set 3 (.int .u64 (wl (sw + x))))
  have HE5 := Lib.hid ((HE4.out.setNe (p := ⟨p, 2, none⟩) (by simpa using ne1) (.int .i64 (wh (sw + x)))).setNe (p := ⟨p, 3, none⟩) (by simpa using ne1) (.int .u64 (wl (sw + x))))
  have HO5 := Lib.hid (own_upd HO4.out hst (fun g hg hm => HPN.out (by simp at hm; subst hm; simp [hg])))
  have HU5 := Lib.hid (HU4.out.then hst)
  clear z3 z4 g3 g4 HB4 HE4 HO4 hst
  generalize (w4.setCell ⟨p, 2, none⟩ (.int .i64 (wh (sw + x)))).setCell ⟨p, 3, none⟩ (.int .u64 (wl (sw + x))) = w5 at *
  obtain ⟨Sx, hSx⟩ : ∃ Sx, Sx = (Value.slice A xs.length cA).ownBlock.toList := ⟨_, rfl⟩
  have n1 : p ∉ Sx := by rw [hSx]; exact HPN.out
  have n2 : w.heap.size ∉ Sx := by rw [hSx]; exact own_notin' HO5.out HE5.out (by decide)
  have c4 := fun q : Wd Sx w5 => q.h.cell (HB5.out.cell (j := 4) rfl) n1
  have e2 := fun q : Wd Sx w5 => q.h.cell (HE5.out.cell (j := 2) rfl) n2
  have HSX := Lib.hid hSx
  have HN1 := Lib.hid n1
  have HSS := Lib.hid (Nat.le_trans hbase (HU5.out.size))
  clear n1 n2 hSx
  refine mix_start (n := 12) 9 (fun w' => ∃ p : Wd Sx w5, w' = p.v) (by kernel_rfl) (by kernel_rfl) ?_
  refine mix_quiet [true, true, true, true, true, true, true] 5 rfl (by kernel_rfl) (by kernel_rfl) (by kernel_rfl) (by kernel_rfl) ⟨⟨_, (Upd.refl Sx w5).drew⟩, rfl⟩ ?_
  simp only [maskL]
  repeat (go_big_quiet_step (fail))
  refine wpQuiet_nil ?_
  clear c4 e2
  refine mix_one 7 (by kernel_rfl) (by kernel_rfl) rfl ?_
  intro K QF hK
  go_wp2_with fail
  refine hK _ _ ⟨⟨_, ((Upd.refl Sx w5).alloc _).drew⟩, rfl⟩ ?_
  clear hK K QF
  have HNB := Lib.hid ((HB.new w5 2 [.int .i64 v]).drew)
  have HUA := Lib.hid (((Upd.refl [] w5).alloc (.cells #[.int .i64 v] 2)).drew)
  refine mix_one 8 (by kernel_rfl) (by kernel_rfl) rfl ?_
  intro K QF hK
  refine wp_append1 base 51 2 _ 1 8 (.slice A xs.length cA) xs.length (xs.map (Value.int .i64)) [.int .i64 v] _ rfl rfl (by kernel_rfl) infoI rfl (by decide) (by decide) rfl rfl rfl (by simp [Value.oneCell']) (own_upd HO5.out HUA.out (by simp)) HNB.out (by have := HSS.out; have := HUA.out.size; omega) (by omega) ?_
  intro v1 w6 hown hU6 hat
  have hU6 := HSX.out ▸ hU6
  obtain ⟨A1, c1', rfl, _, _, _⟩ := own_shape hown
  have HO6 := Lib.hid (show w6.ownsRow base 2 1 (.slice A1 (xs.length + 1) c1') (xs.length + 1) ((xs ++ [v]).map (Value.int .i64)) by rw [List.map_append]; exact hown)
  have HU6 := Lib.hid ((((Upd.refl Sx w5).alloc (.cells #[.int .i64 v] 2)).drew.then hU6))
  have HAT := Lib.hid hat
  clear hown hU6 hat
  go_wp2_with fail
  refine hK _ _ ⟨⟨_, HU6.out⟩, rfl⟩ ?_
  clear hK K QF
  have HB6 := Lib.hid (HB5.out.upd HU6.out HN1.out)
  have z4 := HB6.out.cell (j := 4) rfl
  have g4 := HB6.out.free 4
  have HPN6 := Lib.hid (own_notin' HO6.out HB6.out (by decide))
  refine mix_tail (by kernel_rfl) (by kernel_rfl) ?_
  simp only [List.drop_succ_cons, List.drop_zero]
  go_wp2
  go_end0
  have hst := (Upd.refl [p] w6).setCell (p := ⟨p, 4, none⟩) (.inl (by simp)) (.slice A1 (xs.length + 1) c1')
  refine ⟨rfl, _, HB6.out.set 4 (.slice A1 (xs.length + 1) c1'), own_upd HO6.out hst (fun g hg hm => HPN6.out (by simp at hm; subst hm; simp [hg])), ?_, ?_⟩
  · rcases HAT.out with h | ⟨b, h1, h2⟩
    · exact .inl h
    · exact .inr ⟨b, h1, Nat.le_trans HU5.out.size (Nat.le_trans HUA.out.size h2)⟩
  · refine ((HU5.out.mono (fun i hi => .inl (by simp at hi; simp [hi]))).trans HU6.out (fun _ h => h) (fun i hi => .inl (by rw [HSX.out] at hi; exact List.mem_cons_of_mem _ hi))).trans hst (fun _ h => h) (fun i hi => .inl (by simp at hi; simp [hi]))
def unitV : Value := .agg #[]
def kvU (m : ByteArray) : ByteArray × Value := (m, unitV)
def hasM (ms : List ByteArray) (x : ByteArray) : Bool := ms.any fun m => decide (m = x)
theorem hasM_iff {ms : List ByteArray} {x : ByteArray} : hasM ms x = true ↔ x ∈ ms := by simp [hasM]
def addM (ms : List ByteArray) (x : ByteArray) : List ByteArray := if hasM ms x = true then ms else ms ++ [x]
theorem place_kvU (x : ByteArray) : ∀ (ms : List ByteArray) (i j : Nat) (u : Value), place x (ms.map kvU) i = some (j, u) → u = unitV
  | [], i, j, u, h => by simp [place] at h
  | m :: ms, i, j, u, h => by
    simp only [List.map_cons, place] at h
    split at h
    · simp only [Option.some.injEq, Prod.mk.injEq] at h; exact h.2.symm
    · exact place_kvU x ms _ _ _ h
theorem put_unit (x : ByteArray) (ms : List ByteArray) : put x unitV (ms.map kvU) = (addM ms x).map kvU := by
  have hk : (ms.map kvU).map (·.1) = ms := by
    rw [List.map_map]
    exact List.map_id' ms
  unfold addM
  split
  · rename_i hx
    unfold put
    cases hp : place x (ms.map kvU) 0 with
    | none =>
      have := (place_none x (ms.map kvU) 0).1 hp
      rw [hk] at this
      exact absurd (hasM_iff.1 hx) this
    | some q =>
      obtain ⟨i, u⟩ := q
      apply List.ext_getElem?
      intro j
      simp only [List.getElem?_modify]
      by_cases hij : i = j
      · subst hij
        cases h : (ms.map kvU)[i]? with
        | none => simp
        | some q =>
          rw [List.getElem?_map, Option.map_eq_some_iff] at h
          obtain ⟨m, _, rfl⟩ := h
          simp [kvU]
      · simp [hij]
  · rename_i hx
    rw [put_new _ _ _ (by rw [hk]; exact fun h => hx (hasM_iff.2 h))]
    simp [kvU]
set_option maxHeartbeats 2000000 in
theorem set_take (p b : Nat) (n : Int) (ms : List ByteArray) (e : Ev) (w : World) (hB : HB w p TSet [.int .i64 n, .map (some b)]) (hM : MapAt w Value.string b (ms.map kvU)) (hn : 0 ≤ n ∧ n ≤ 4194304) :
    Calls Tryz.prog 168 #[.pointer (some ⟨p, 0, none⟩), .agg (evC e).toArray] w fun x w' => x = .returned (.tuple #[]) ∧
      HB w' p TSet [.int .i64 (n + 1), .map (some b)] ∧ MapAt w' Value.string b ((addM ms e.member).map kvU) ∧ Upd [p, b] w w' := by
  have hpb : p ≠ b := fun h => by
    subst h
    obtain ⟨es, ck, h1, _⟩ := hM
    unfold HB at hB
    rw [hB] at h1
    cases h1
  have hbl := hM.lt
  have HM := Lib.hid hM
  clear hM
  have hU0 := (Upd.refl [] w).alloc (.cells (evC e).toArray TEv)
  have HE := Lib.hid (HB.new w TEv (evC e))
  have hne : p ≠ w.heap.size := by have := hB.lt; omega
  have HB0 := Lib.hid (hB.upd hU0 (by simp))
  have HU := Lib.hid hU0
  have HPL := Lib.hid hB.lt
  obtain ⟨nm, k, v, dl, mb, rt, td, ti⟩ := e
  dsimp only at *
  clear hU0 hB
  have HM0 := Lib.hid (HM.out.upd HU.out (by simp))
  unfold evC at *
  dsimp only at *
  go_enter Tryz.func168, Tryz.ntmps168
  have c0 := HB0.out.cell (j := 0) rfl
  have f0 := HB0.out.free 0
  go_wp2_with fail
  have HU1 := Lib.hid (HU.out.of0.setCell (S := [p]) (p := ⟨p, 0, none⟩) (.inl (by simp)) (.int .i64 (n + 1)))
  have HB1 := Lib.hid (HB0.out.set 0 (.int .i64 (n + 1)))
  have HE1 := Lib.hid (HE.out.setNe (p := ⟨p, 0, none⟩) (by simpa using hne.symm) (.int .i64 (n + 1)))
  have HM1 := Lib.hid (HM0.out.upd ((Upd.refl [p] _).setCell (p := ⟨p, 0, none⟩) (.inl (by simp)) (.int .i64 (n + 1))) (by simp; exact fun h => hpb h.symm))
  clear c0 f0 HB0 HE HU HM0
  generalize (w.alloc (.cells #[.string nm, .int .i64 k, .int .i64 v, .bool dl, .string mb, .int .i64 rt, .bool td, .int .i64 ti] TEv)).setCell ⟨p, 0, none⟩ (.int .i64 (n + 1)) = W1 at *
  have c1 := fun q : Wd [] W1 => q.h.cell (HB1.out.cell (j := 1) rfl) (by simp)
  have e4 := fun q : Wd [] W1 => q.h.cell (HE1.out.cell (j := 4) rfl) (by simp)
  refine mix_start (n := 8) 7 (fun w' => ∃ p : Wd [] W1, w' = p.v) (by kernel_rfl) (by kernel_rfl) ?_
  refine mix_quiet [true, true, true, true, true, true, true] 1 rfl (by kernel_rfl) (by kernel_rfl) (by kernel_rfl) (by kernel_rfl) ⟨⟨_, (Upd.refl [] W1).drew⟩, rfl⟩ ?_
  simp only [maskL]
  repeat (go_big_quiet_step (fail))
  refine wpQuiet_nil ?_
  clear c1 e4
  obtain ⟨w2, hrun, hM2, hU2⟩ := run_update (P := Tryz.prog) klS Tryz.underlying126 (HM1.out.upd (Upd.refl [] W1).drew (by simp)) mb unitV
  rw [put_unit] at hM2
  unfold unitV at hrun
  refine mix_tail (by kernel_rfl) (by kernel_rfl) ?_
  simp only [List.drop_succ_cons, List.drop_zero]
  go_wp2
  go_end0
  have hU3 : Upd [p, b] w w2 := (HU1.out.mono (fun i hi => .inl (by simp at hi; simp [hi]))).trans ((Upd.refl [b] W1).drew.then hU2) (fun _ h => h) (fun i hi => .inl (by simp at hi; simp [hi]))
  exact ⟨rfl, HB1.out.upd ((Upd.refl [b] W1).drew.then hU2) (by simpa using hpb), hM2, hU3⟩
end Go.Proofs.YthbjpoiolmlpmaaGreatDoor
