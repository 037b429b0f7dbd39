/- AggSums: a counter over all windows. -/
import Derived.Test.YthbjpoiolmlpmaaGreatDoorAgSum
import Derived.Test.YthbjpoiolmlpmaaGreatDoorAgLaw5
import Derived.Test.YthbjpoiolmlpmaaGreatDoorScale
import Derived.Test.YthbjpoiolmlpmaaGreatDoorMixS
import Derived.Deep.CutRange
set_option linter.unusedVariables false
set_option linter.unusedSimpArgs false
namespace Go.Proofs.YthbjpoiolmlpmaaGreatDoor
open Go.RowKit
def PL (cw : List WCL) (q : Nat) : List TL := ((cw.take q).map WCL.pl).flatMap (·.2)
theorem pl_next {cw : List WCL} {q : Nat} {c : WCL} (h : cw[q]? = some c) : PL cw (q + 1) = PL cw q ++ c.us.map (·.2) := by
  unfold PL
  rw [List.take_add_one, h]
  simp [WCL.pl]
theorem pl_all {cw : List WCL} {q : Nat} {c : WCL} (h : cw[q]? = some c) : ∃ M, PL cw cw.length = PL cw q ++ (c.us.map (·.2) ++ M) := by
  obtain ⟨hq, rfl⟩ := List.getElem?_eq_some_iff.1 h
  refine ⟨((cw.drop (q + 1)).map WCL.pl).flatMap (·.2), ?_⟩
  have e : cw = cw.take q ++ cw[q] :: cw.drop (q + 1) := by simp
  unfold PL
  rw [List.take_length]
  have e2 : cw.map WCL.pl = (cw.take q).map WCL.pl ++ cw[q].pl :: (cw.drop (q + 1)).map WCL.pl := by
    rw [← List.map_cons, ← List.map_append, ← e]
  rw [e2, List.flatMap_append, List.flatMap_cons]
  rfl
theorem wrap64_id (x : Int) (h1 : 0 ≤ x) (h2 : x ≤ 1048577) : wrap64 x = x := by unfold wrap64; omega
theorem wrap_nn (n : Nat) (h : (n : Int) + 1 < 9223372036854775808) : wrap64 ((n : Int) + 1) = ((n + 1 : Nat) : Int) := by unfold wrap64; omega
set_option maxHeartbeats 8000000 in
set_option maxRecDepth 200000 in
theorem sums_calls (rows : List KE) (v : Value) (nm : ByteArray) (F : Nat → Prop) (w : World) (hR : RowK w F rowC 9 v rows) (hF : ∀ b, F b → b < w.heap.size) (hok : okRows rows) (hI : ∀ p ∈ rows, I64 p.1) (hM : MaxL w) :
    Calls Tryz.prog 4 #[v, .string nm] w fun e w' => e = .returned (.bool true) ∧ Upd [] w w' := by
  have HR := Lib.hid hR
  have HOK := Lib.hid hok
  have HI := Lib.hid hI
  obtain ⟨A, c, rfl, hlc, hcm, _⟩ := hR.shape
  have HF := Lib.hid hF
  clear hR hok hlc hcm hF hI
  go_enter Tryz.func4, Tryz.ntmps4
  go_wp2_with fail
  refine (shNew_calls w).mono ?_
  rintro e w1 ⟨a, O, rfl, hS, hU⟩
  have HS := Lib.hid hS
  have HU := Lib.hid hU
  have HAW := Lib.hid (awake_calls w1 (hM.upd0 hU) (by have := hU.size; have := hM.pos; omega))
  clear hS hU
  go_wp2_with fail
  refine HAW.out.mono ?_
  rintro e w2 ⟨rfl, hU2⟩
  have HS2 := Lib.hid (HS.out.upd0 hU2)
  have HU2 := Lib.hid (HU.out.then hU2)
  clear hU2 HAW HS HU
  go_wp2_with fail
  go_loopw [7, 8] (fun n i wr => ∃ (k : Nat) (O' : Nat → Prop), k ≤ rows.length ∧ n = .int .i64 (nC nm (rows.take k)) ∧ i = .int .i64 k ∧ ShAt wr w.heap.size a O' (runE (rows.take k)) k ∧ ¬ O' w2.heap.size ∧ HB wr w2.heap.size TWide (wC (nS nm (rows.take k))) ∧ Upd [] w wr) (fun n i _ => rows.length - (intOf i).toNat)
  case atStart => exact ⟨0, O, Nat.zero_le _, rfl, rfl, HS2.out.upd0 (by repeat (first | exact Upd.refl _ _ | assumption | apply Upd.drewN | apply Upd.drew | apply Upd.alloc)), fun h => by have := (HS2.out.lo _ h).2; omega, HB.new w2 TWide [.int .i64 0, .int .u64 0], HU2.out.then (by repeat (first | exact Upd.refl _ _ | assumption | apply Upd.drewN | apply Upd.drew | apply Upd.alloc))⟩
  case round =>
    obtain ⟨k, O', hk, rfl, rfl, hS, hO, hsb, hU⟩ := hrel
    have HS := Lib.hid hS
    have HO := Lib.hid hO
    have HSB := Lib.hid hsb
    have HU := Lib.hid hU
    clear hS hO hsb hU
    by_cases hlt : k < rows.length
    · obtain ⟨p, hp⟩ : ∃ p, rows[k]? = some p := ⟨rows[k], List.getElem?_eq_getElem hlt⟩
      obtain ⟨b, o, rfl, hb, hf⟩ := HR.out.at_ hp
      have hfb := HF.out b hb
      have hp2 := HOK.out.2 p (List.mem_of_getElem? hp)
      have HP := Lib.hid hp
      have htk : rows.take (k + 1) = rows.take k ++ [p] := by rw [List.take_add_one, hp]; rfl
      obtain ⟨id, e⟩ := p
      have x1 := HU.out.cell (hf 1 (.string e.name) rfl) (by simp)
      have x2 := HU.out.cell (hf 2 (.int .i64 e.kind) rfl) (by simp)
      have x3 := HU.out.cell (hf 3 (.int .i64 e.value) rfl) (by simp)
      have x4 := HU.out.cell (hf 4 (.bool e.delta) rfl) (by simp)
      have x5 := HU.out.cell (hf 5 (.string e.member) rfl) (by simp)
      have x6 := HU.out.cell (hf 6 (.int .i64 e.rate) rfl) (by simp)
      have x7 := HU.out.cell (hf 7 (.bool e.timed) rfl) (by simp)
      have x8 := HU.out.cell (hf 8 (.int .i64 e.time) rfl) (by simp)
      have hx0 := HU.out.cell (hf 0 (.int .i64 id) rfl) (by simp)
      rw [Nat.add_zero] at hx0
      have HNS := Lib.hid (n_snoc nm (rows.take k) (id, e))
      rw [← htk] at HNS
      have HTK := Lib.hid htk
      obtain ⟨W1, hW1⟩ : ∃ W1, W1 = wr.alloc (.cells #[.string e.name, .int .i64 e.kind, .int .i64 e.value, .bool e.delta, .string e.member, .int .i64 e.rate, .bool e.timed, .int .i64 e.time] TEv) := ⟨_, rfl⟩
      have hUW : Upd [] wr W1 := by rw [hW1]; exact (Upd.refl [] wr).alloc _
      have HE1 := Lib.hid (show HB W1 wr.heap.size TEv (evC e) from by rw [hW1]; exact HB.new wr TEv (evC e))
      have HS1 := Lib.hid (HS.out.upd0 hUW)
      have HSB1 := Lib.hid (HSB.out.upd hUW (by simp))
      have HU1 := Lib.hid (HU.out.then hUW)
      have HX0 := Lib.hid (hUW.cell hx0 (by simp))
      have HNO := Lib.hid (show ¬ O' b from fun h => by have := (HS.out.lo b h).1; omega)
      have HNE := Lib.hid (show ¬ O' wr.heap.size from fun h => by have := (HS.out.lo _ h).2; omega)
      clear hf hp hfb hb hx0 htk hUW
      go_upto_region 10 with fail
      rw [← hW1]
      clear hW1 x1 x2 x3 x4 x5 x6 x7 x8
      go_cut [58] from 39 to 58 (fun s58 wx => s58 = .bool (isC nm (id, e)) ∧ ∃ O2, ShAt wx w.heap.size a O2 (runE (rows.take (k + 1))) (k + 1) ∧ ¬ O2 w2.heap.size ∧ HB wx w2.heap.size TWide (wC (nS nm (rows.take k))) ∧ HB wx wr.heap.size TEv (evC e) ∧ Upd [] w wx)
      case first =>
        have HAP := Lib.hid (shApply_calls w.heap.size a k O' (runE (rows.take k)) id e W1.drew (HS1.out.upd0 (Upd.refl [] W1).drew) (by have := HOK.out.1; omega) (hM.upd0 HU1.out.drew) hp2.1 (Nat.le_trans hp2.2 (by unfold maxLen; decide)) HU1.out.size hM.pos)
        have x0 := fun z : WdP O' W1 => z.h.cell HX0.out HNO.out
        have e0 := fun z : WdP O' W1 => z.h.cell (HE1.out.cell (j := 0) rfl) HNE.out
        have e1 := fun z : WdP O' W1 => z.h.cell (HE1.out.cell (j := 1) rfl) HNE.out
        have e2 := fun z : WdP O' W1 => z.h.cell (HE1.out.cell (j := 2) rfl) HNE.out
        have e3 := fun z : WdP O' W1 => z.h.cell (HE1.out.cell (j := 3) rfl) HNE.out
        have e4 := fun z : WdP O' W1 => z.h.cell (HE1.out.cell (j := 4) rfl) HNE.out
        have e5 := fun z : WdP O' W1 => z.h.cell (HE1.out.cell (j := 5) rfl) HNE.out
        have e6 := fun z : WdP O' W1 => z.h.cell (HE1.out.cell (j := 6) rfl) HNE.out
        have e7 := fun z : WdP O' W1 => z.h.cell (HE1.out.cell (j := 7) rfl) HNE.out
        refine mix_start (n := 20) 20 (fun w' => ∃ p : WdP O' W1, w' = p.v) (by kernel_rfl) (by kernel_rfl) ?_
        refine mix_quiet [true, true, true, true, true, true, true] 13 rfl (by kernel_rfl) (by kernel_rfl) (by kernel_rfl) (by kernel_rfl) ⟨⟨_, (UpdP.of0 (Upd.refl [] W1).drew)⟩, rfl⟩ ?_
        simp only [maskL]
        repeat (go_big_quiet_step (fail))
        refine wpQuiet_nil ?_
        clear x0 e0 e1 e2 e3 e4 e5 e6 e7
        refine mix_one 7 (by kernel_rfl) (by kernel_rfl) rfl ?_
        intro K QF hK
        go_wp2_with fail
        refine HAP.out.mono ?_
        rintro x w3 ⟨rfl, O2, hS3, hO3, hU3⟩
        rw [← runE_take HP.out] at hS3
        have HS3 := Lib.hid hS3
        have HU3 := Lib.hid (hU3.low HU1.out.drew (fun b hb => (HS1.out.lo b hb).1))
        have HUP := Lib.hid ((UpdP.of0 ((Upd.refl [] W1).drew)).trans hU3 (fun _ _ h => h))
        have HE3 := Lib.hid (HUP.out.hb HE1.out HNE.out)
        have HSB3 := Lib.hid (HUP.out.hb HSB1.out HO.out)
        have HO3 := Lib.hid (show ¬ O2 w2.heap.size from fun h => HO.out (hO3 _ (HSB1.out.lt) h))
        clear hS3 hU3 hO3
        go_wp2_with fail
        refine hK _ _ ⟨⟨_, HUP.out⟩, rfl⟩ ?_
        clear hK K QF
        refine mix_sub (fun w' => ∃ p : Wd [] w3, w' = p.v) (wdp_sub HUP.out) ?_
        have y0 := fun z : Wd [] w3 => z.h.cell (HE3.out.cell (j := 0) rfl) (by simp)
        have y1 := fun z : Wd [] w3 => z.h.cell (HE3.out.cell (j := 1) rfl) (by simp)
        rw [show (runE (rows.take k)).bd = -9223372036854775808 by rw [runE_E]]
        by_cases g1 : acode (-9223372036854775808) id e = 0
        · have d1 : (acode (-9223372036854775808) id e == 0) = true := by simpa using g1
          by_cases g2 : e.kind = 1
          · have d2 : (e.kind == 1) = true := by simpa using g2
            by_cases g3 : e.name = nm
            · have d3 : e.name.toList = nm.toList := by rw [g3]
              have HG := Lib.hid (show isC nm (id, e) = true by simp [isC, accB, g1, g2, g3])
              clear g1 g2 g3
              refine mix_quiet [false, false, false, false, false, false, false, false, true, true, true, true, true, true, true, true, true, true, true, true] 0 rfl (by kernel_rfl) (by kernel_rfl) (by kernel_rfl) (by kernel_rfl) ⟨⟨_, Upd.refl [] w3⟩, rfl⟩ ?_
              simp only [maskL]
              repeat (go_big_quiet_step (fail))
              refine wpQuiet_nil ?_
              refine mix_end (by kernel_rfl) ?_
              go_wp2_with fail
              go_meet
              exact ⟨by rw [HG.out], O2, HS3.out.upd0 (by repeat (first | exact Upd.refl _ _ | assumption | apply Upd.drewN | apply Upd.drew | apply Upd.alloc)), HO3.out, HSB3.out.upd0 (by repeat (first | exact Upd.refl _ _ | assumption | apply Upd.drewN | apply Upd.drew | apply Upd.alloc)), HE3.out.upd0 (by repeat (first | exact Upd.refl _ _ | assumption | apply Upd.drewN | apply Upd.drew | apply Upd.alloc)), HU3.out.then (by repeat (first | exact Upd.refl _ _ | assumption | apply Upd.drewN | apply Upd.drew | apply Upd.alloc))⟩
            · have d3 : (e.name.toList == nm.toList) = false := beq_eq_false_iff_ne.2 (fun h => g3 (toList_inj.1 h))
              have HG := Lib.hid (show isC nm (id, e) = false by simp [isC, accB, g1, g2, g3])
              clear g1 g2 g3
              refine mix_quiet [false, false, false, false, false, false, false, false, true, true, true, true, true, true, true, true, true, true, true, true] 0 rfl (by kernel_rfl) (by kernel_rfl) (by kernel_rfl) (by kernel_rfl) ⟨⟨_, Upd.refl [] w3⟩, rfl⟩ ?_
              simp only [maskL]
              repeat (go_big_quiet_step (fail))
              refine wpQuiet_nil ?_
              refine mix_end (by kernel_rfl) ?_
              go_wp2_with fail
              go_meet
              exact ⟨by rw [HG.out], O2, HS3.out.upd0 (by repeat (first | exact Upd.refl _ _ | assumption | apply Upd.drewN | apply Upd.drew | apply Upd.alloc)), HO3.out, HSB3.out.upd0 (by repeat (first | exact Upd.refl _ _ | assumption | apply Upd.drewN | apply Upd.drew | apply Upd.alloc)), HE3.out.upd0 (by repeat (first | exact Upd.refl _ _ | assumption | apply Upd.drewN | apply Upd.drew | apply Upd.alloc)), HU3.out.then (by repeat (first | exact Upd.refl _ _ | assumption | apply Upd.drewN | apply Upd.drew | apply Upd.alloc))⟩
          · have d2 : (e.kind == 1) = false := by simpa using g2
            have HG := Lib.hid (show isC nm (id, e) = false by simp [isC, accB, g1, g2])
            clear g1 g2
            refine mix_quiet [false, false, false, false, false, false, false, false, true, true, true, true, true, true, true, true, true, true, true, true] 0 rfl (by kernel_rfl) (by kernel_rfl) (by kernel_rfl) (by kernel_rfl) ⟨⟨_, Upd.refl [] w3⟩, rfl⟩ ?_
            simp only [maskL]
            repeat (go_big_quiet_step (fail))
            refine wpQuiet_nil ?_
            refine mix_end (by kernel_rfl) ?_
            go_wp2_with fail
            go_meet
            exact ⟨by rw [HG.out], O2, HS3.out.upd0 (by repeat (first | exact Upd.refl _ _ | assumption | apply Upd.drewN | apply Upd.drew | apply Upd.alloc)), HO3.out, HSB3.out.upd0 (by repeat (first | exact Upd.refl _ _ | assumption | apply Upd.drewN | apply Upd.drew | apply Upd.alloc)), HE3.out.upd0 (by repeat (first | exact Upd.refl _ _ | assumption | apply Upd.drewN | apply Upd.drew | apply Upd.alloc)), HU3.out.then (by repeat (first | exact Upd.refl _ _ | assumption | apply Upd.drewN | apply Upd.drew | apply Upd.alloc))⟩
        · have d1 : (acode (-9223372036854775808) id e == 0) = false := by simpa using g1
          have HG := Lib.hid (show isC nm (id, e) = false by simp [isC, accB, g1])
          clear g1
          refine mix_quiet [false, false, false, false, false, false, false, false, true, true, true, true, true, true, true, true, true, true, true, true] 0 rfl (by kernel_rfl) (by kernel_rfl) (by kernel_rfl) (by kernel_rfl) ⟨⟨_, Upd.refl [] w3⟩, rfl⟩ ?_
          simp only [maskL]
          repeat (go_big_quiet_step (fail))
          refine wpQuiet_nil ?_
          refine mix_end (by kernel_rfl) ?_
          go_wp2_with fail
          go_meet
          exact ⟨by rw [HG.out], O2, HS3.out.upd0 (by repeat (first | exact Upd.refl _ _ | assumption | apply Upd.drewN | apply Upd.drew | apply Upd.alloc)), HO3.out, HSB3.out.upd0 (by repeat (first | exact Upd.refl _ _ | assumption | apply Upd.drewN | apply Upd.drew | apply Upd.alloc)), HE3.out.upd0 (by repeat (first | exact Upd.refl _ _ | assumption | apply Upd.drewN | apply Upd.drew | apply Upd.alloc)), HU3.out.then (by repeat (first | exact Upd.refl _ _ | assumption | apply Upd.drewN | apply Upd.drew | apply Upd.alloc))⟩
      case rest =>
        obtain ⟨rfl, O2, hS3, hO3, hsb3, he3, hU3⟩ := hcut
        have HS3 := Lib.hid hS3
        have HO3 := Lib.hid hO3
        have HSB3 := Lib.hid hsb3
        have HU3 := Lib.hid hU3
        have hnb := n_bd nm (rows.take (k + 1))
        rw [List.length_take] at hnb
        have hnk := n_bd nm (rows.take k)
        rw [List.length_take] at hnk
        have hrl := HOK.out.1
        clear hS3 hO3 hsb3 hU3
        rcases Bool.eq_false_or_eq_true (isC nm (id, e)) with hg | hg
        · have hv := hg
          unfold isC at hv
          rw [Bool.and_eq_true, Bool.and_eq_true] at hv
          obtain ⟨_, hvb, hrb⟩ := chk_ok (acode_ok (of_decide_eq_true hv.1.1)).1
          have hsc := scl_bd hvb hrb.1
          obtain ⟨hn1, hn2⟩ := HNS.out
          rw [if_pos hg] at hn1 hn2
          have HN1 := Lib.hid hn1
          have HN2 := Lib.hid hn2
          have HSC := Lib.hid (scale_calls e.value e.rate hvb hrb wc)
          have HB1 := Lib.hid (show I64 (scl e.value e.rate) from by unfold I64; simp only at hsc; omega)
          have HB2 := Lib.hid (show I128 (nS nm (rows.take k)) from by unfold I128; omega)
          have HB3 := Lib.hid (show I128 (nS nm (rows.take k) + scl e.value e.rate) from by rw [← hn1]; unfold I128; omega)
          have HB4 := Lib.hid (show (nC nm (rows.take k) : Int) + 1 < 9223372036854775808 from by omega)
          have y2 := he3.cell (j := 2) rfl
          have y5 := he3.cell (j := 5) rfl
          rw [hg]
          clear hv hvb hrb hsc hn1 hn2 hnb hnk hg he3
          go_wp2_with fail
          refine HSC.out.mono ?_
          rintro x w4 ⟨rfl, hU4⟩
          have HSB4 := Lib.hid (HSB3.out.upd0 hU4)
          have HS4 := Lib.hid (HS3.out.upd0 hU4)
          have HU4 := Lib.hid (HU3.out.then hU4)
          clear hU4 y2 y5
          go_upto_region 14 with fail
          have s0 := HSB4.out.cell (j := 0) rfl
          have s1 := HSB4.out.cell (j := 1) rfl
          refine mix_start (n := 9) 9 (fun w' => ∃ p : Wd [w2.heap.size] w4, w' = p.v) (by kernel_rfl) (by kernel_rfl) ?_
          refine mix_quiet [false, true] 8 rfl (by kernel_rfl) (by kernel_rfl) (by kernel_rfl) (by kernel_rfl) ⟨⟨_, (Upd.refl [w2.heap.size] w4).drew⟩, rfl⟩ ?_
          simp only [maskL]
          repeat (go_big_quiet_step (fail))
          refine wpQuiet_nil ?_
          refine mix_two 0 2 (by kernel_rfl) (by kernel_rfl) (by kernel_rfl) rfl rfl ?_ ?_
          · intro K QF hK
            go_wp2_with fail
            refine hK _ _ ⟨⟨_, ((Upd.refl [w2.heap.size] w4).drew)⟩, rfl⟩ ?_
            clear hK K QF
            clear s0 s1
            refine mix_one 2 (by kernel_rfl) (by kernel_rfl) rfl ?_
            intro K QF hK
            go_wp2_with fail
            refine (of_calls _ HB1.out _).mono ?_
            rintro x w5 ⟨rfl, hU5⟩
            have HU5 := Lib.hid (show Upd [] w4 w5 from (Upd.refl [] w4).drew.then hU5)
            clear hU5
            go_wp2_with fail
            refine hK _ _ ⟨⟨_, HU5.out.of0⟩, rfl⟩ ?_
            clear hK K QF
            refine mix_one 3 (by kernel_rfl) (by kernel_rfl) rfl ?_
            intro K QF hK
            go_wp2_with fail
            refine (add_calls _ _ HB2.out HB1.out.to _).mono ?_
            rintro x w6 ⟨rfl, hU6⟩
            have HU6 := Lib.hid (HU5.out.then hU6)
            rw [wres_in HB3.out]
            clear hU6
            go_wp2_with fail
            refine hK _ _ ⟨⟨_, HU6.out.of0⟩, rfl⟩ ?_
            clear hK K QF
            refine mix_quiet [false, false, false, false, true, true, true] 2 rfl (by kernel_rfl) (by kernel_rfl) (by kernel_rfl) (by kernel_rfl) ⟨⟨_, HU6.out.of0⟩, rfl⟩ ?_
            simp only [maskL]
            repeat (go_big_quiet_step (fail))
            refine wpQuiet_nil ?_
            refine mix_one 7 (by kernel_rfl) (by kernel_rfl) rfl ?_
            intro K QF hK
            have HSB6 := Lib.hid (HSB4.out.upd0 HU6.out)
            have t0 := HSB6.out.cell (j := 0) rfl
            have t1 := HSB6.out.cell (j := 1) rfl
            have f0 := HSB6.out.free 0
            have f1 := HSB6.out.free 1
            go_wp2_with fail
            refine hK _ _ ⟨⟨_, ((HU6.out.of0.setCell (p := ⟨w2.heap.size, 0, none⟩) (.inl (by simp)) (.int .i64 (wh (nS nm (rows.take k) + scl e.value e.rate)))).setCell (p := ⟨w2.heap.size, 1, none⟩) (.inl (by simp)) (.int .u64 (wl (nS nm (rows.take k) + scl e.value e.rate))))⟩, rfl⟩ ?_
            clear hK K QF
            clear t0 t1 f0 f1
            refine mix_quiet [false, false, false, false, false, false, false, false, true] 0 rfl (by kernel_rfl) (by kernel_rfl) (by kernel_rfl) (by kernel_rfl) ⟨⟨_, ((HU6.out.of0.setCell (p := ⟨w2.heap.size, 0, none⟩) (.inl (by simp)) (.int .i64 (wh (nS nm (rows.take k) + scl e.value e.rate)))).setCell (p := ⟨w2.heap.size, 1, none⟩) (.inl (by simp)) (.int .u64 (wl (nS nm (rows.take k) + scl e.value e.rate))))⟩, rfl⟩ ?_
            simp only [maskL]
            repeat (go_big_quiet_step (fail))
            refine wpQuiet_nil ?_
            refine mix_end (by kernel_rfl) ?_
            go_wp2_with fail
            go_roundw
            case rel =>
              have h6 := HSB6.out
              have hlo : w.heap.size ≤ w2.heap.size := HU2.out.size
              exact ⟨k + 1, O2, by omega, by rw [HN2.out, wrap_nn _ HB4.out], by go_num, HS4.out.upd ((HU6.out.of0 (S := [w2.heap.size])).setCell (p := ⟨w2.heap.size, 0, none⟩) (.inl (by simp)) _ |>.setCell (p := ⟨w2.heap.size, 1, none⟩) (.inl (by simp)) _) (by intro b hb; simp at hb; subst hb; exact HO3.out), HO3.out, by rw [HN1.out]; exact (h6.set 0 _).set 1 _, (HU4.out.then HU6.out).setCell (p := ⟨w2.heap.size, 0, none⟩) (.inr hlo) _ |>.setCell (p := ⟨w2.heap.size, 1, none⟩) (.inr hlo) _⟩
            case measure => simp [intOf]; omega
          · intro K QF hK
            go_wp2_with fail
            refine (of_calls _ HB1.out _).mono ?_
            rintro x w5 ⟨rfl, hU5⟩
            have HU5 := Lib.hid (show Upd [] w4 w5 from (Upd.refl [] w4).drew.then hU5)
            clear hU5 s0 s1
            have s0 := HU5.out.cell (HSB4.out.cell (j := 0) rfl) (by simp)
            have s1 := HU5.out.cell (HSB4.out.cell (j := 1) rfl) (by simp)
            go_wp2_with fail
            refine hK _ _ ⟨⟨_, HU5.out.of0⟩, rfl⟩ ?_
            clear hK K QF
            refine mix_one 0 (by kernel_rfl) (by kernel_rfl) rfl ?_
            intro K QF hK
            go_wp2_with fail
            refine hK _ _ ⟨⟨_, HU5.out.of0⟩, rfl⟩ ?_
            clear hK K QF
            clear s0 s1
            refine mix_one 3 (by kernel_rfl) (by kernel_rfl) rfl ?_
            intro K QF hK
            go_wp2_with fail
            refine (add_calls _ _ HB2.out HB1.out.to _).mono ?_
            rintro x w6 ⟨rfl, hU6⟩
            have HU6 := Lib.hid (HU5.out.then hU6)
            rw [wres_in HB3.out]
            clear hU6
            go_wp2_with fail
            refine hK _ _ ⟨⟨_, HU6.out.of0⟩, rfl⟩ ?_
            clear hK K QF
            refine mix_quiet [false, false, false, false, true, true, true] 2 rfl (by kernel_rfl) (by kernel_rfl) (by kernel_rfl) (by kernel_rfl) ⟨⟨_, HU6.out.of0⟩, rfl⟩ ?_
            simp only [maskL]
            repeat (go_big_quiet_step (fail))
            refine wpQuiet_nil ?_
            refine mix_one 7 (by kernel_rfl) (by kernel_rfl) rfl ?_
            intro K QF hK
            have HSB6 := Lib.hid (HSB4.out.upd0 HU6.out)
            have t0 := HSB6.out.cell (j := 0) rfl
            have t1 := HSB6.out.cell (j := 1) rfl
            have f0 := HSB6.out.free 0
            have f1 := HSB6.out.free 1
            go_wp2_with fail
            refine hK _ _ ⟨⟨_, ((HU6.out.of0.setCell (p := ⟨w2.heap.size, 0, none⟩) (.inl (by simp)) (.int .i64 (wh (nS nm (rows.take k) + scl e.value e.rate)))).setCell (p := ⟨w2.heap.size, 1, none⟩) (.inl (by simp)) (.int .u64 (wl (nS nm (rows.take k) + scl e.value e.rate))))⟩, rfl⟩ ?_
            clear hK K QF
            clear t0 t1 f0 f1
            refine mix_quiet [false, false, false, false, false, false, false, false, true] 0 rfl (by kernel_rfl) (by kernel_rfl) (by kernel_rfl) (by kernel_rfl) ⟨⟨_, ((HU6.out.of0.setCell (p := ⟨w2.heap.size, 0, none⟩) (.inl (by simp)) (.int .i64 (wh (nS nm (rows.take k) + scl e.value e.rate)))).setCell (p := ⟨w2.heap.size, 1, none⟩) (.inl (by simp)) (.int .u64 (wl (nS nm (rows.take k) + scl e.value e.rate))))⟩, rfl⟩ ?_
            simp only [maskL]
            repeat (go_big_quiet_step (fail))
            refine wpQuiet_nil ?_
            refine mix_end (by kernel_rfl) ?_
            go_wp2_with fail
            go_roundw
            case rel =>
              have h6 := HSB6.out
              have hlo : w.heap.size ≤ w2.heap.size := HU2.out.size
              exact ⟨k + 1, O2, by omega, by rw [HN2.out, wrap_nn _ HB4.out], by go_num, HS4.out.upd ((HU6.out.of0 (S := [w2.heap.size])).setCell (p := ⟨w2.heap.size, 0, none⟩) (.inl (by simp)) _ |>.setCell (p := ⟨w2.heap.size, 1, none⟩) (.inl (by simp)) _) (by intro b hb; simp at hb; subst hb; exact HO3.out), HO3.out, by rw [HN1.out]; exact (h6.set 0 _).set 1 _, (HU4.out.then HU6.out).setCell (p := ⟨w2.heap.size, 0, none⟩) (.inr hlo) _ |>.setCell (p := ⟨w2.heap.size, 1, none⟩) (.inr hlo) _⟩
            case measure => simp [intOf]; omega
        · rw [hg]
          obtain ⟨hn1, hn2⟩ := HNS.out
          rw [if_neg (by rw [hg]; decide)] at hn1 hn2
          have HN1 := Lib.hid hn1
          have HN2 := Lib.hid hn2
          clear hn1 hn2 hnb hnk hg he3
          go_wp2_with fail
          go_roundw
          case rel => exact ⟨k + 1, O2, by omega, by rw [HN2.out], by go_num, HS3.out, HO3.out, by rw [HN1.out]; exact HSB3.out, HU3.out⟩
          case measure => simp [intOf]; omega
    · obtain rfl : k = rows.length := by omega
      rw [List.take_length] at HS HSB
      simp only [List.take_length]
      have HGO := Lib.hid (show ¬ O' wr.heap.size from fun h => by have := (HS.out.lo _ h).2; omega)
      have HCL := Lib.hid (shClose_calls w.heap.size a rows.length O' (runE rows) 9223372036854775807 (wr.alloc (.cells #[.int .i64 0, .int .u64 0] TWide)) (HS.out.upd0 (by repeat (first | exact Upd.refl _ _ | assumption | apply Upd.drewN | apply Upd.drew | apply Upd.alloc))) (by have := HOK.out.1; omega) (by have := HU.out.size; simp; omega))
      go_wp2_with fail
      refine HCL.out.mono ?_
      rintro x w4 ⟨va, cw, A', rfl, hC, hW, O2, hS2, hO2, hN2, hU2⟩
      obtain ⟨Ax, cx, rfl, hcw, hcx, _⟩ := own_shape hW.row
      have hcw : cw.length ≤ 9223372036854775807 := by unfold maxLen at hcx; omega
      have HSB4 := Lib.hid (hU2.hb (HSB.out.alloc (.cells #[.int .i64 0, .int .u64 0] TWide)) HO.out)
      have HGB4 := Lib.hid (hU2.hb (HB.new wr TWide [.int .i64 0, .int .u64 0]) HGO.out)
      have HU4 := Lib.hid (hU2.low (HU.out.alloc (.cells #[.int .i64 0, .int .u64 0] TWide)) (fun b hb => (HS.out.lo b hb).1))
      have HALL := Lib.hid (sums_all HI.out nm hC)
      have HW4 := Lib.hid (show WinsAt w4 (wr.heap.size + 1) w.heap.size (.slice Ax cw.length cx) cw from by simpa using hW)
      have HSG := Lib.hid (show w2.heap.size ≠ wr.heap.size from fun h => by have := HSB.out.lt; omega)
      have HGL := Lib.hid (show w.heap.size ≤ wr.heap.size from HU.out.size)
      clear hcx hC hW hS2 hO2 hN2 hU2 HCL
      generalize wr.heap.size = gb at *
      clear HS HSB HU
      go_wp2_with fail
      go_loopw [13, 84] (fun m i wr => ∃ q : Nat, q ≤ cw.length ∧ m = .int .i64 (sC nm (PL cw q)) ∧ i = .int .i64 q ∧ HB wr gb TWide (wC (sS nm (PL cw q))) ∧ Upd [gb] w4 wr) (fun m i _ => cw.length - (intOf i).toNat)
      case atStart => exact ⟨0, Nat.zero_le _, rfl, rfl, HGB4.out.upd0 (by repeat (first | exact Upd.refl _ _ | assumption | apply Upd.drewN | apply Upd.drew | apply Upd.alloc)), (show Upd [] w4 _ from by repeat (first | exact Upd.refl _ _ | assumption | apply Upd.drewN | apply Upd.drew | apply Upd.alloc)).of0⟩
      case round =>
        obtain ⟨q, hq, rfl, rfl, hgb, hU⟩ := hrel
        have HGB := Lib.hid hgb
        have HU := Lib.hid hU
        clear hgb hU
        by_cases hlt2 : q < cw.length
        · obtain ⟨c, hc⟩ : ∃ c, cw[q]? = some c := ⟨cw[q], List.getElem?_eq_getElem hlt2⟩
          obtain ⟨b, m, e, hbB, ⟨x0, x1⟩, hwin, hus, A', m', eT⟩ := HW4.out.at_ hc
          have HPL := Lib.hid (pl_next hc)
          have HCM := Lib.hid (pl_all hc)
          obtain ⟨id, tv, us⟩ := c
          dsimp only at eT x0 x1 hus
          subst eT
          injection e with e1 e2 e3
          subst e1 e3
          have HWI := Lib.hid hwin
          have x0 := HU.out.cell x0 (by simp; omega)
          have x1 := HU.out.cell x1 (by simp; omega)
          clear hc e2 hwin
          go_wp2_with fail
          generalize wr = wo at *
          go_loopw [13, 91] (fun m j wr => ∃ r : Nat, r ≤ us.length ∧ m = .int .i64 (sC nm (PL cw q ++ (us.take r).map (·.2))) ∧ j = .int .i64 r ∧ HB wr gb TWide (wC (sS nm (PL cw q ++ (us.take r).map (·.2)))) ∧ Upd [gb] w4 wr) (fun m j _ => us.length - (intOf j).toNat)
          case atStart => exact ⟨0, Nat.zero_le _, by simp, rfl, by simpa using HGB.out.upd0 (show Upd [] wo _ from by repeat (first | exact Upd.refl _ _ | assumption | apply Upd.drewN | apply Upd.drew | apply Upd.alloc)), HU.out.then0 (by repeat (first | exact Upd.refl _ _ | assumption | apply Upd.drewN | apply Upd.drew | apply Upd.alloc))⟩
          case round =>
            clear x0 x1
            obtain ⟨r, hr, rfl, rfl, hgb, hU⟩ := hrel
            have HGB2 := Lib.hid hgb
            have HU2 := Lib.hid hU
            clear hgb hU
            by_cases hlt3 : r < us.length
            · obtain ⟨u, hu⟩ : ∃ u, us[r]? = some u := ⟨us[r], List.getElem?_eq_getElem hlt3⟩
              obtain ⟨b2, m2, SA, SC, MA, MC, e, hb2, hc, _, _⟩ := HWI.out.at_ hu
              injection e with e1 e2 e3
              subst e1 e3
              have htk : PL cw q ++ (us.take (r + 1)).map (·.2) = (PL cw q ++ (us.take r).map (·.2)) ++ [u.2] := by
                rw [List.take_add_one, hu]
                simp
              have hspl : ∃ M, PL cw cw.length = ((PL cw q ++ (us.take r).map (·.2)) ++ [u.2]) ++ M := by
                obtain ⟨M, hM⟩ := HCM.out
                refine ⟨(us.drop (r + 1)).map (·.2) ++ M, ?_⟩
                rw [hM, ← htk]
                simp only [List.append_assoc]
                congr 1
                rw [← List.append_assoc, ← List.map_append, List.take_append_drop]
              have hcc : ∀ x y, (talC u.2 SA SC MA MC)[x]? = some y → wr.cell? ⟨b2, r * 9 + x, none⟩ = some y := fun x y hy => HU2.out.cell (hc x y hy) (by simp; omega)
              generalize u.2 = l at *
              obtain ⟨L, hL⟩ : ∃ L, L = PL cw q ++ (us.take r).map (·.2) := ⟨_, rfl⟩
              rw [← hL] at htk hspl HGB2 ⊢
              have HTK := Lib.hid htk
              have c0 := hcc 0 _ rfl
              have c1 := hcc 1 _ rfl
              have c2 := hcc 2 _ rfl
              have c3 := hcc 3 _ rfl
              have c4 := hcc 4 _ rfl
              have c5 := hcc 5 _ rfl
              have c6 := hcc 6 _ rfl
              have c7 := hcc 7 _ rfl
              have c8 := hcc 8 _ rfl
              simp only [Nat.add_zero] at c0
              have HBD := Lib.hid (show I128 (sS nm L) ∧ I128 (sS nm L + l.sum) ∧ I128 l.sum ∧ 0 ≤ sC nm L + l.c ∧ sC nm L + l.c ≤ 1048577 ∨ ¬ mt nm l = true from by
                by_cases hm : mt nm l = true
                · refine .inl ?_
                  obtain ⟨M, hM⟩ := hspl
                  obtain ⟨a1, a2, a3⟩ := HALL.out
                  rw [show List.flatMap (fun x => x.2) (cw.map WCL.pl) = PL cw cw.length by unfold PL; rw [List.take_length], hM] at a2 a3
                  have k1 := sums_part HOK.out.1 nm a2 a3
                  rw [List.append_assoc] at a2 a3
                  have k2 := sums_part HOK.out.1 nm a2 a3
                  rw [sS_snoc, sC_snoc, if_pos hm, if_pos hm] at k1
                  unfold I128
                  omega
                · exact .inr hm)
              clear htk hspl hc hcc e2 hu hL
              obtain ⟨W3, hW3⟩ : ∃ W3, W3 = wr.alloc (.cells #[.int .i64 l.k, .string l.n, .int .i64 l.c, .int .i64 (wh l.sum), .int .u64 (wl l.sum), .int .i64 (wh l.wt), .int .u64 (wl l.wt), .slice SA l.smp.length SC, .slice MA l.mem.length MC] TTal) := ⟨_, rfl⟩
              have HT3 := Lib.hid (show HB W3 wr.heap.size TTal (talC l SA SC MA MC) from by rw [hW3]; exact HB.new wr TTal (talC l SA SC MA MC))
              have HG3 := Lib.hid (show HB W3 gb TWide (wC (sS nm L)) from by rw [hW3]; exact HGB2.out.alloc _)
              have HU3 := Lib.hid (show Upd [gb] w4 W3 from by rw [hW3]; exact HU2.out.alloc _)
              have HTG := Lib.hid (show wr.heap.size ≠ gb from fun e => by have := HGB2.out.lt; omega)
              go_upto_region 26 with fail
              rw [← hW3]
              clear hW3 c0 c1 c2 c3 c4 c5 c6 c7 c8
              have t0 := HT3.out.cell (j := 0) rfl
              have t1 := HT3.out.cell (j := 1) rfl
              have t2 := HT3.out.cell (j := 2) rfl
              have t3 := HT3.out.cell (j := 3) rfl
              have t4 := HT3.out.cell (j := 4) rfl
              have g0 := HG3.out.cell (j := 0) rfl
              have g1 := HG3.out.cell (j := 1) rfl
              by_cases hm : mt nm l = true
              · obtain ⟨q1, q2⟩ : l.k = 1 ∧ l.n = nm := by have := of_decide_eq_true hm; exact ⟨congrArg Prod.fst this, congrArg Prod.snd this⟩
                have d1 : (l.k == 1) = true := by simpa using q1
                have d2 : l.n.toList = nm.toList := by rw [q2]
                have HBB := Lib.hid (HBD.out.resolve_right (fun h => h hm))
                have HN1 := Lib.hid (show sS nm (L ++ [l]) = sS nm L + l.sum by rw [sS_snoc, if_pos hm])
                have HN2 := Lib.hid (show sC nm (L ++ [l]) = sC nm L + l.c by rw [sC_snoc, if_pos hm])
                have HAD := Lib.hid (fun W => add_calls (sS nm L) l.sum HBB.out.1 HBB.out.2.2.1 W)
                rw [wres_in HBB.out.2.1] at HAD
                clear q1 q2 hm
                go_wp2_with fail
                refine (HAD.out _).mono ?_
                rintro x w6 ⟨rfl, hU6⟩
                have hT6 := HT3.out.upd0 hU6
                have hG6 := HG3.out.upd0 hU6
                have hS6 := HB.new w6 TWide [.int .i64 (wh (sS nm L + l.sum)), .int .u64 (wl (sS nm L + l.sum))]
                have hT7 := hT6.alloc (.cells #[.int .i64 (wh (sS nm L + l.sum)), .int .u64 (wl (sS nm L + l.sum))] TWide)
                have hG7 := hG6.alloc (.cells #[.int .i64 (wh (sS nm L + l.sum)), .int .u64 (wl (sS nm L + l.sum))] TWide)
                have HU7 := Lib.hid (HU3.out.then0 (hU6.alloc (.cells #[.int .i64 (wh (sS nm L + l.sum)), .int .u64 (wl (sS nm L + l.sum))] TWide)))
                obtain ⟨W7, hW7⟩ : ∃ W7, W7 = w6.alloc (.cells #[.int .i64 (wh (sS nm L + l.sum)), .int .u64 (wl (sS nm L + l.sum))] TWide) := ⟨_, rfl⟩
                have HS7 := Lib.hid (show HB W7 w6.heap.size TWide (wC (sS nm L + l.sum)) from by rw [hW7]; exact hS6)
                have HT7 := Lib.hid (show HB W7 wr.heap.size TTal (talC l SA SC MA MC) from by rw [hW7]; exact hT7)
                have HG7 := Lib.hid (show HB W7 gb TWide (wC (sS nm L)) from by rw [hW7]; exact hG7)
                rw [show w6.alloc (.cells #[.int .i64 (wh (sS nm L + l.sum)), .int .u64 (wl (sS nm L + l.sum))] TWide) = W7 from hW7.symm] at HU7
                clear hT6 hG6 hS6 hT7 hG7 hU6 t0 t1 t2 t3 t4 g0 g1
                go_upto_region 28 with fail
                rw [← hW7]
                clear hW7
                have s0 := HS7.out.cell (j := 0) rfl
                have s1 := HS7.out.cell (j := 1) rfl
                have g0 := HG7.out.cell (j := 0) rfl
                have g1 := HG7.out.cell (j := 1) rfl
                have g2 := HG7.out.free 0
                have g3 := HG7.out.free 1
                go_upto_region 31 with fail
                have hgt := HTG.out
                have h8 := (HG7.out.set 0 (.int .i64 (wh (sS nm L + l.sum)))).set 1 (.int .u64 (wl (sS nm L + l.sum)))
                have k8 := (HT7.out.setNe (p := ⟨gb, 0, none⟩) hgt (.int .i64 (wh (sS nm L + l.sum)))).setNe (p := ⟨gb, 1, none⟩) hgt (.int .u64 (wl (sS nm L + l.sum)))
                have u8 := (HU7.out.setCell (p := ⟨gb, 0, none⟩) (.inl (by simp)) (.int .i64 (wh (sS nm L + l.sum)))).setCell (p := ⟨gb, 1, none⟩) (.inl (by simp)) (.int .u64 (wl (sS nm L + l.sum)))
                obtain ⟨W8, hW8⟩ : ∃ W8, W8 = (W7.setCell ⟨gb, 0, none⟩ (.int .i64 (wh (sS nm L + l.sum)))).setCell ⟨gb, 1, none⟩ (.int .u64 (wl (sS nm L + l.sum))) := ⟨_, rfl⟩
                rw [← hW8] at h8 k8 u8 ⊢
                have H8 := Lib.hid (show HB W8 gb TWide (wC (sS nm L + l.sum)) from h8)
                have U8 := Lib.hid u8
                have t2 := k8.cell (j := 2) rfl
                clear hW8 h8 k8 u8 s0 s1 g0 g1 g2 g3 hgt
                go_wp2_with fail
                go_roundw
                case rel => exact ⟨r + 1, by omega, by rw [HTK.out, HN2.out, wrap64_id _ (by have := HBB.out; omega) (by have := HBB.out; omega)], by go_num, by rw [HTK.out, HN1.out]; exact H8.out, U8.out⟩
                case measure => simp [intOf]; omega
              · have HN1 := Lib.hid (show sS nm (L ++ [l]) = sS nm L by rw [sS_snoc, if_neg hm])
                have HN2 := Lib.hid (show sC nm (L ++ [l]) = sC nm L by rw [sC_snoc, if_neg hm])
                by_cases q1 : l.k = 1
                · have q2 : ¬ l.n = nm := fun e => hm (by unfold mt TL.met; rw [q1, e]; simp)
                  have d1 : (l.k == 1) = true := by simpa using q1
                  have d2 : (l.n.toList == nm.toList) = false := beq_eq_false_iff_ne.2 (fun h => q2 (toList_inj.1 h))
                  clear q1 q2 hm
                  go_wp2_with fail
                  go_roundw
                  case rel => exact ⟨r + 1, by omega, by rw [HTK.out, HN2.out], by go_num, by rw [HTK.out, HN1.out]; exact HG3.out.upd0 (by repeat (first | exact Upd.refl _ _ | assumption | apply Upd.drewN | apply Upd.drew | apply Upd.alloc)), HU3.out.then0 (by repeat (first | exact Upd.refl _ _ | assumption | apply Upd.drewN | apply Upd.drew | apply Upd.alloc))⟩
                  case measure => simp [intOf]; omega
                · have d1 : (l.k == 1) = false := by simpa using q1
                  clear q1 hm
                  go_wp2_with fail
                  go_roundw
                  case rel => exact ⟨r + 1, by omega, by rw [HTK.out, HN2.out], by go_num, by rw [HTK.out, HN1.out]; exact HG3.out.upd0 (by repeat (first | exact Upd.refl _ _ | assumption | apply Upd.drewN | apply Upd.drew | apply Upd.alloc)), HU3.out.then0 (by repeat (first | exact Upd.refl _ _ | assumption | apply Upd.drewN | apply Upd.drew | apply Upd.alloc))⟩
                  case measure => simp [intOf]; omega
            · obtain rfl : r = us.length := by omega
              rw [List.take_length] at HGB2
              simp only [List.take_length]
              rw [← HPL.out] at HGB2
              simp only [← HPL.out]
              go_wp2_with fail
              go_roundw
              case rel => exact ⟨q + 1, by omega, rfl, by go_num, HGB2.out, HU2.out⟩
              case measure => simp [intOf]; omega
        · obtain rfl : q = cw.length := by omega
          obtain ⟨a1, a2, _⟩ := HALL.out
          have e1 : PL cw cw.length = (cw.map WCL.pl).flatMap (·.2) := by unfold PL; rw [List.take_length]
          rw [← e1] at a1 a2
          rw [a1] at HGB
          rw [a2]
          have g0 := HGB.out.cell (j := 0) rfl
          have g1 := HGB.out.cell (j := 1) rfl
          have hsb := HSB4.out.upd HU.out (by simp; exact HSG.out)
          have s0 := hsb.cell (j := 0) rfl
          have s1 := hsb.cell (j := 1) rfl
          have HF := Lib.hid (HU4.out.trans HU.out (fun _ h => h) (fun i hi => .inr (by simp at hi; have := HGL.out; omega)))
          clear a1 a2 e1 hsb
          go_wp2
          go_ret
          exact ⟨rfl, HF.out⟩
theorem aggSums_calls (c0 : List Value) (x0 : GT.den (.slice gRow)) (c1 : List Value) (x1 : GT.den .str) (W : World) (h0 : Rd W (· < W.heap.size) (.slice gRow) c0 x0) (h1 : Rd W (· < W.heap.size) .str c1 x1) (hk : GT.bulk (.slice gRow) x0 + GT.bulk .str x1 ≤ 1048576) (hM : MaxL W) :
    Calls Tryz.prog 4 #[GT.val (.slice gRow) c0, GT.val .str c1] W fun e w' => e = .returned (.bool true) ∧ Upd [] W w' := by
  obtain ⟨v, rows, rfl, hR, hok, hI⟩ := rd_rows h0 (by omega)
  obtain ⟨rfl, _⟩ := h1
  exact sums_calls rows v x1 _ W hR (fun b h => h) hok hI hM
end Go.Proofs.YthbjpoiolmlpmaaGreatDoor
