/- AggGauges: a gauge from window to window. -/
import Derived.Test.YthbjpoiolmlpmaaGreatDoorAgGau
import Derived.Test.YthbjpoiolmlpmaaGreatDoorMixS
import Derived.Test.YthbjpoiolmlpmaaGreatDoorScale
import Derived.Deep.CutRange
set_option linter.unusedVariables false
set_option linter.unusedSimpArgs false
namespace Go.Proofs.YthbjpoiolmlpmaaGreatDoor
open Go.RowKit
theorem rowC_lenG (p : KE) : (rowC p).length = 9 := rfl
theorem rowC_oneG (p : KE) : ∀ u ∈ rowC p, u.oneCell' = true := by
  intro u hp
  simp only [rowC, evC, List.mem_cons, List.not_mem_nil, or_false] at hp
  rcases hp with rfl | rfl | rfl | rfl | rfl | rfl | rfl | rfl | rfl <;> rfl
abbrev TRowG : TypeId := 32
theorem infoRowG : (Tryz.prog.info? TRowG).map (fun i => (i.zero, i.size, i.bytes)) = some (some (.agg #[.int .i64 0, .string .empty, .int .i64 0, .int .i64 0, .bool false, .string .empty, .int .i64 0, .bool false, .int .i64 0]), 9, 88) := by kernel_rfl
set_option maxHeartbeats 8000000 in
set_option maxRecDepth 200000 in
theorem gauges_calls (rows : List KE) (v : Value) (nm : ByteArray) (F : Nat → Prop) (w : World) (hR : RowK w F rowC 9 v rows) (hF : ∀ b, F b → b < w.heap.size) (hok : okRows rows) (hM : MaxL w) :
    Calls Tryz.prog 9 #[v, .string nm] w fun e w' => e = .returned (.bool true) ∧ Upd [] w w' := by
  have HR := Lib.hid hR
  have HOK := Lib.hid hok
  have hrl := hok.1
  obtain ⟨A, c, rfl, hlc, hcm, _⟩ := hR.shape
  have HF := Lib.hid hF
  clear hR hok hlc hcm hF
  go_enter Tryz.func9, Tryz.ntmps9
  go_wp2_with fail
  refine (shNew_calls w).mono ?_
  rintro e w1 ⟨a, O, rfl, hS, hU⟩
  have HS := Lib.hid hS
  have HU := Lib.hid hU
  have HAW := Lib.hid (awake_calls w1 (hM.upd0 hU) (by have := hU.size; have := hM.pos; omega))
  clear hS hU
  go_wp2_with fail
  refine HAW.out.mono ?_
  rintro e w2 ⟨rfl, hU2⟩
  have HS2 := Lib.hid (HS.out.upd0 hU2)
  have HU2 := Lib.hid (HU.out.then hU2)
  clear hU2 HAW HS HU
  go_wp2_with fail
  go_loopw [6, 7] (fun m i wr => ∃ (k : Nat) (O' : Nat → Prop), k ≤ rows.length ∧ i = .int .i64 k ∧ ShAt wr w.heap.size a O' (runE (rows.take k)) k ∧ (∀ g, m.ownBlock = some g → ¬ O' g) ∧ wr.ownsRow w.heap.size TRowG 9 m ((rows.take k).filter (isG nm)).length (((rows.take k).filter (isG nm)).flatMap rowC) ∧ Upd [] w wr) (fun m i _ => rows.length - (intOf i).toNat)
  case atStart => exact ⟨0, O, Nat.zero_le _, rfl, HS2.out.upd0 (by repeat (first | exact Upd.refl _ _ | assumption | apply Upd.drewN | apply Upd.drew | apply Upd.alloc)), fun g hg => (by cases hg), ⟨rfl, .inl ⟨rfl, rfl⟩⟩, HU2.out.then (by repeat (first | exact Upd.refl _ _ | assumption | apply Upd.drewN | apply Upd.drew | apply Upd.alloc))⟩
  case round =>
    obtain ⟨k, O', hk, rfl, hS, hO, hmi, hU⟩ := hrel
    obtain ⟨Am, cm, rfl, hcm1, hcm2, _⟩ := own_shape hmi
    have HS := Lib.hid hS
    have HO := Lib.hid hO
    have HMI := Lib.hid hmi
    have HU := Lib.hid hU
    clear hS hO hmi hU hcm1 hcm2
    by_cases hlt : k < rows.length
    · obtain ⟨p, hp⟩ : ∃ p, rows[k]? = some p := ⟨rows[k], List.getElem?_eq_getElem hlt⟩
      obtain ⟨b, o, rfl, hb, hf⟩ := HR.out.at_ hp
      have hfb := HF.out b hb
      have hp2 := HOK.out.2 p (List.mem_of_getElem? hp)
      have HP := Lib.hid hp
      have htk : rows.take (k + 1) = rows.take k ++ [p] := by rw [List.take_add_one, hp]; rfl
      obtain ⟨id, e⟩ := p
      have HCE := Lib.hid (show ∀ j u, (rowC (id, e))[j]? = some u → wr.cell? ⟨b, o + k * 9 + j, none⟩ = some u from fun j u hj => HU.out.cell (hf j u hj) (by simp))
      have x1 := HCE.out 1 (.string e.name) rfl
      have x2 := HCE.out 2 (.int .i64 e.kind) rfl
      have x3 := HCE.out 3 (.int .i64 e.value) rfl
      have x4 := HCE.out 4 (.bool e.delta) rfl
      have x5 := HCE.out 5 (.string e.member) rfl
      have x6 := HCE.out 6 (.int .i64 e.rate) rfl
      have x7 := HCE.out 7 (.bool e.timed) rfl
      have x8 := HCE.out 8 (.int .i64 e.time) rfl
      have hx0 := HCE.out 0 (.int .i64 id) rfl
      rw [Nat.add_zero] at hx0
      have HNS := Lib.hid (isG_snoc nm (rows.take k) (id, e))
      rw [← htk] at HNS
      obtain ⟨W1, hW1⟩ : ∃ W1, W1 = wr.alloc (.cells #[.string e.name, .int .i64 e.kind, .int .i64 e.value, .bool e.delta, .string e.member, .int .i64 e.rate, .bool e.timed, .int .i64 e.time] TEv) := ⟨_, rfl⟩
      have hUW : Upd [] wr W1 := by rw [hW1]; exact (Upd.refl [] wr).alloc _
      have HE1 := Lib.hid (show HB W1 wr.heap.size TEv (evC e) from by rw [hW1]; exact HB.new wr TEv (evC e))
      have HS1 := Lib.hid (HS.out.upd0 hUW)
      have HMI1 := Lib.hid (own_upd HMI.out hUW (by simp))
      have HU1 := Lib.hid (HU.out.then hUW)
      have HX0 := Lib.hid (hUW.cell hx0 (by simp))
      have HNO := Lib.hid (show ¬ O' b from fun h => by have := (HS.out.lo b h).1; omega)
      have HNE := Lib.hid (show ¬ O' wr.heap.size from fun h => by have := (HS.out.lo _ h).2; omega)
      have HFB := Lib.hid hfb
      have HCW := Lib.hid hf
      clear hf hp hfb hb hx0 htk hUW
      go_upto_region 9 with fail
      rw [← hW1]
      clear hW1 x1 x2 x3 x4 x5 x6 x7 x8
      go_cut [55] from 36 to 55 (fun s58 wx => s58 = .bool (isG nm (id, e)) ∧ ∃ O2, ShAt wx w.heap.size a O2 (runE (rows.take (k + 1))) (k + 1) ∧ (∀ g, (Value.slice Am ((rows.take k).filter (isG nm)).length cm).ownBlock = some g → ¬ O2 g) ∧ wx.ownsRow w.heap.size TRowG 9 (.slice Am ((rows.take k).filter (isG nm)).length cm) ((rows.take k).filter (isG nm)).length (((rows.take k).filter (isG nm)).flatMap rowC) ∧ Upd [] w wx)
      case first =>
        have HAP := Lib.hid (shApply_calls w.heap.size a k O' (runE (rows.take k)) id e W1.drew (HS1.out.upd0 (Upd.refl [] W1).drew) (by have := HOK.out.1; omega) (hM.upd0 HU1.out.drew) hp2.1 (Nat.le_trans hp2.2 (by unfold maxLen; decide)) HU1.out.size hM.pos)
        have x0 := fun z : WdP O' W1 => z.h.cell HX0.out HNO.out
        have e0 := fun z : WdP O' W1 => z.h.cell (HE1.out.cell (j := 0) rfl) HNE.out
        have e1 := fun z : WdP O' W1 => z.h.cell (HE1.out.cell (j := 1) rfl) HNE.out
        have e2 := fun z : WdP O' W1 => z.h.cell (HE1.out.cell (j := 2) rfl) HNE.out
        have e3 := fun z : WdP O' W1 => z.h.cell (HE1.out.cell (j := 3) rfl) HNE.out
        have e4 := fun z : WdP O' W1 => z.h.cell (HE1.out.cell (j := 4) rfl) HNE.out
        have e5 := fun z : WdP O' W1 => z.h.cell (HE1.out.cell (j := 5) rfl) HNE.out
        have e6 := fun z : WdP O' W1 => z.h.cell (HE1.out.cell (j := 6) rfl) HNE.out
        have e7 := fun z : WdP O' W1 => z.h.cell (HE1.out.cell (j := 7) rfl) HNE.out
        refine mix_start (n := 20) 20 (fun w' => ∃ p : WdP O' W1, w' = p.v) (by kernel_rfl) (by kernel_rfl) ?_
        refine mix_quiet [true, true, true, true, true, true, true] 13 rfl (by kernel_rfl) (by kernel_rfl) (by kernel_rfl) (by kernel_rfl) ⟨⟨_, (UpdP.of0 (Upd.refl [] W1).drew)⟩, rfl⟩ ?_
        simp only [maskL]
        repeat (go_big_quiet_step (fail))
        refine wpQuiet_nil ?_
        clear x0 e0 e1 e2 e3 e4 e5 e6 e7
        refine mix_one 7 (by kernel_rfl) (by kernel_rfl) rfl ?_
        intro K QF hK
        go_wp2_with fail
        refine HAP.out.mono ?_
        rintro x w3 ⟨rfl, O2, hS3, hO3, hU3⟩
        rw [← runE_take HP.out] at hS3
        have HS3 := Lib.hid hS3
        have HU3 := Lib.hid (hU3.low HU1.out.drew (fun b hb => (HS1.out.lo b hb).1))
        have HUP := Lib.hid ((UpdP.of0 ((Upd.refl [] W1).drew)).trans hU3 (fun _ _ h => h))
        have HE3 := Lib.hid (HUP.out.hb HE1.out HNE.out)
        have HMI3 := Lib.hid (show w3.ownsRow w.heap.size TRowG 9 (.slice Am ((rows.take k).filter (isG nm)).length cm) ((rows.take k).filter (isG nm)).length (((rows.take k).filter (isG nm)).flatMap rowC) from by
          obtain ⟨T, k1, k2⟩ := HUP.out
          exact own_upd HMI1.out k1 (fun g hg hm => HO.out g hg (k2 g hm)))
        have HO3 := Lib.hid (show ∀ g, (Value.slice Am ((rows.take k).filter (isG nm)).length cm).ownBlock = some g → ¬ O2 g from fun g hg h => HO.out g hg (hO3 _ (own_lt HMI1.out g hg) h))
        clear hS3 hU3 hO3
        go_wp2_with fail
        refine hK _ _ ⟨⟨_, HUP.out⟩, rfl⟩ ?_
        clear hK K QF
        refine mix_sub (fun w' => ∃ p : Wd [] w3, w' = p.v) (wdp_sub HUP.out) ?_
        have y0 := fun z : Wd [] w3 => z.h.cell (HE3.out.cell (j := 0) rfl) (by simp)
        have y1 := fun z : Wd [] w3 => z.h.cell (HE3.out.cell (j := 1) rfl) (by simp)
        rw [show (runE (rows.take k)).bd = -9223372036854775808 by rw [runE_E]]
        by_cases g1 : acode (-9223372036854775808) id e = 0
        · have d1 : (acode (-9223372036854775808) id e == 0) = true := by simpa using g1
          by_cases g2 : e.kind = 2
          · have d2 : (e.kind == 2) = true := by simpa using g2
            by_cases g3 : e.name = nm
            · have d3 : e.name.toList = nm.toList := by rw [g3]
              have HG := Lib.hid (show isG nm (id, e) = true by simp [isG, accB, g1, g2, g3])
              clear g1 g2 g3
              refine mix_quiet [false, false, false, false, false, false, false, false, true, true, true, true, true, true, true, true, true, true, true, true] 0 rfl (by kernel_rfl) (by kernel_rfl) (by kernel_rfl) (by kernel_rfl) ⟨⟨_, Upd.refl [] w3⟩, rfl⟩ ?_
              simp only [maskL]
              repeat (go_big_quiet_step (fail))
              refine wpQuiet_nil ?_
              refine mix_end (by kernel_rfl) ?_
              go_wp2_with fail
              go_meet
              exact ⟨by rw [HG.out], O2, HS3.out.upd0 (by repeat (first | exact Upd.refl _ _ | assumption | apply Upd.drewN | apply Upd.drew | apply Upd.alloc)), HO3.out, own_upd HMI3.out (S := []) (by repeat (first | exact Upd.refl _ _ | assumption | apply Upd.drewN | apply Upd.drew | apply Upd.alloc)) (by simp), HU3.out.then (by repeat (first | exact Upd.refl _ _ | assumption | apply Upd.drewN | apply Upd.drew | apply Upd.alloc))⟩
            · have d3 : (e.name.toList == nm.toList) = false := beq_eq_false_iff_ne.2 (fun h => g3 (toList_inj.1 h))
              have HG := Lib.hid (show isG nm (id, e) = false by simp [isG, accB, g1, g2, g3])
              clear g1 g2 g3
              refine mix_quiet [false, false, false, false, false, false, false, false, true, true, true, true, true, true, true, true, true, true, true, true] 0 rfl (by kernel_rfl) (by kernel_rfl) (by kernel_rfl) (by kernel_rfl) ⟨⟨_, Upd.refl [] w3⟩, rfl⟩ ?_
              simp only [maskL]
              repeat (go_big_quiet_step (fail))
              refine wpQuiet_nil ?_
              refine mix_end (by kernel_rfl) ?_
              go_wp2_with fail
              go_meet
              exact ⟨by rw [HG.out], O2, HS3.out.upd0 (by repeat (first | exact Upd.refl _ _ | assumption | apply Upd.drewN | apply Upd.drew | apply Upd.alloc)), HO3.out, own_upd HMI3.out (S := []) (by repeat (first | exact Upd.refl _ _ | assumption | apply Upd.drewN | apply Upd.drew | apply Upd.alloc)) (by simp), HU3.out.then (by repeat (first | exact Upd.refl _ _ | assumption | apply Upd.drewN | apply Upd.drew | apply Upd.alloc))⟩
          · have d2 : (e.kind == 2) = false := by simpa using g2
            have HG := Lib.hid (show isG nm (id, e) = false by simp [isG, accB, g1, g2])
            clear g1 g2
            refine mix_quiet [false, false, false, false, false, false, false, false, true, true, true, true, true, true, true, true, true, true, true, true] 0 rfl (by kernel_rfl) (by kernel_rfl) (by kernel_rfl) (by kernel_rfl) ⟨⟨_, Upd.refl [] w3⟩, rfl⟩ ?_
            simp only [maskL]
            repeat (go_big_quiet_step (fail))
            refine wpQuiet_nil ?_
            refine mix_end (by kernel_rfl) ?_
            go_wp2_with fail
            go_meet
            exact ⟨by rw [HG.out], O2, HS3.out.upd0 (by repeat (first | exact Upd.refl _ _ | assumption | apply Upd.drewN | apply Upd.drew | apply Upd.alloc)), HO3.out, own_upd HMI3.out (S := []) (by repeat (first | exact Upd.refl _ _ | assumption | apply Upd.drewN | apply Upd.drew | apply Upd.alloc)) (by simp), HU3.out.then (by repeat (first | exact Upd.refl _ _ | assumption | apply Upd.drewN | apply Upd.drew | apply Upd.alloc))⟩
        · have d1 : (acode (-9223372036854775808) id e == 0) = false := by simpa using g1
          have HG := Lib.hid (show isG nm (id, e) = false by simp [isG, accB, g1])
          clear g1
          refine mix_quiet [false, false, false, false, false, false, false, false, true, true, true, true, true, true, true, true, true, true, true, true] 0 rfl (by kernel_rfl) (by kernel_rfl) (by kernel_rfl) (by kernel_rfl) ⟨⟨_, Upd.refl [] w3⟩, rfl⟩ ?_
          simp only [maskL]
          repeat (go_big_quiet_step (fail))
          refine wpQuiet_nil ?_
          refine mix_end (by kernel_rfl) ?_
          go_wp2_with fail
          go_meet
          exact ⟨by rw [HG.out], O2, HS3.out.upd0 (by repeat (first | exact Upd.refl _ _ | assumption | apply Upd.drewN | apply Upd.drew | apply Upd.alloc)), HO3.out, own_upd HMI3.out (S := []) (by repeat (first | exact Upd.refl _ _ | assumption | apply Upd.drewN | apply Upd.drew | apply Upd.alloc)) (by simp), HU3.out.then (by repeat (first | exact Upd.refl _ _ | assumption | apply Upd.drewN | apply Upd.drew | apply Upd.alloc))⟩
      case rest =>
        obtain ⟨rfl, O2, hS3, hO3, hmi3, hU3⟩ := hcut
        have HS3 := Lib.hid hS3
        have HO3 := Lib.hid hO3
        have HMI3 := Lib.hid hmi3
        have HU3 := Lib.hid hU3
        clear hS3 hO3 hmi3 hU3
        have HML := Lib.hid (show ((rows.take k).filter (isG nm)).length ≤ 1048576 from by
          have h1 := List.length_filter_le (isG nm) (rows.take k)
          have h2 := HOK.out.1
          rw [List.length_take] at h1
          omega)
        rcases Bool.eq_false_or_eq_true (isG nm (id, e)) with hg | hg
        · have hn := HNS.out
          rw [if_pos hg] at hn
          have HN := Lib.hid hn
          have hc := fun j u hj => HU3.out.cell (HCW.out j u hj) (by simp)
          have x0 := hc 0 _ rfl
          have x1 := hc 1 _ rfl
          have x2 := hc 2 _ rfl
          have x3 := hc 3 _ rfl
          have x4 := hc 4 _ rfl
          have x5 := hc 5 _ rfl
          have x6 := hc 6 _ rfl
          have x7 := hc 7 _ rfl
          have x8 := hc 8 _ rfl
          simp only [Nat.add_zero] at x0
          have hal := (Upd.refl [] wc).alloc (.cells #[.int .i64 id, .string e.name, .int .i64 e.kind, .int .i64 e.value, .bool e.delta, .string e.member, .int .i64 e.rate, .bool e.timed, .int .i64 e.time] TRowG)
          have HRO := Lib.hid (own_upd HMI3.out hal (by simp))
          have HS4 := Lib.hid (HS3.out.upd0 hal)
          have HU4 := Lib.hid (HU3.out.then hal)
          have HNB := Lib.hid (HB.new wc TRowG [.int .i64 id, .string e.name, .int .i64 e.kind, .int .i64 e.value, .bool e.delta, .string e.member, .int .i64 e.rate, .bool e.timed, .int .i64 e.time])
          have HSB := Lib.hid HU4.out.size
          rw [hg]
          clear hn hc hal hg
          go_wp2_with (at_builtin; go_must (refine wp_append1 w.heap.size 22 TRowG _ 9 88 (.slice Am ((rows.take k).filter (isG nm)).length cm) ((rows.take k).filter (isG nm)).length (((rows.take k).filter (isG nm)).flatMap rowC) [.int .i64 id, .string e.name, .int .i64 e.kind, .int .i64 e.value, .bool e.delta, .string e.member, .int .i64 e.rate, .bool e.timed, .int .i64 e.time] _ rfl rfl (by kernel_rfl) infoRowG rfl (by decide) (by decide) rfl rfl rfl (by simp [Value.oneCell']) HRO.out HNB.out HSB.out (by have := HML.out; omega) ?_))
          intro v1 w4 hown4 hU5 hat4
          have HOW := Lib.hid hown4
          have HU5 := Lib.hid hU5
          have HAT := Lib.hid hat4
          clear hown4 hU5 hat4 x0 x1 x2 x3 x4 x5 x6 x7 x8
          go_wp2_with fail
          go_roundw
          case rel =>
            refine ⟨k + 1, O2, by omega, by go_num, HS4.out.upd HU5.out (fun g hg => ?_), fun g hg => ?_, by rw [HN.out, List.length_append, List.flatMap_append]; exact HOW.out, HU4.out.trans HU5.out (fun _ h => h) (fun g hg => .inr ?_)⟩
            · exact HO3.out g (by simpa using hg)
            · rcases HAT.out with h | ⟨g2, h, hg2⟩
              · rw [h] at hg
                exact HO3.out g hg
              · rw [h] at hg
                injection hg with hg
                subst hg
                exact fun ho => by have := (HS3.out.lo _ ho).2; omega
            · exact (HMI3.out.lt g (by simpa using hg)).1
          case measure => simp [intOf]; omega
        · have hn := HNS.out
          rw [if_neg (by rw [hg]; decide)] at hn
          have HN := Lib.hid hn
          rw [hg]
          clear hn hg
          go_wp2_with fail
          go_roundw
          case rel => exact ⟨k + 1, O2, by omega, by go_num, HS3.out, HO3.out, by rw [HN.out]; exact HMI3.out, HU3.out⟩
          case measure => simp [intOf]; omega
    · obtain rfl : k = rows.length := by omega
      rw [List.take_length] at HS HMI
      simp only [List.take_length] at HO ⊢
      obtain ⟨M, hM⟩ : ∃ M, M = rows.filter (isG nm) := ⟨_, rfl⟩
      have HMQ := Lib.hid hM
      rw [← hM] at HMI HO ⊢
      clear hM
      have HGO := Lib.hid (show ¬ O' wr.heap.size from fun h => by have := (HS.out.lo _ h).2; omega)
      have HCL := Lib.hid (shClose_calls w.heap.size a rows.length O' (runE rows) 9223372036854775807 (wr.alloc (.cells #[.int .i64 0, .int .u64 0] TWide)) (HS.out.upd0 (by repeat (first | exact Upd.refl _ _ | assumption | apply Upd.drewN | apply Upd.drew | apply Upd.alloc))) (by have := HOK.out.1; omega) (by have := HU.out.size; simp; omega))
      go_wp2_with fail
      refine HCL.out.mono ?_
      rintro x w4 ⟨va, cw, A', rfl, hC, hW, O2, hS2, hO2, hN2, hU2⟩
      obtain ⟨Ax, cx, rfl, hcw, hcx, _⟩ := own_shape hW.row
      have hcw : cw.length ≤ 9223372036854775807 := by unfold maxLen at hcx; omega
      have hcl : cw.length ≤ rows.length := by have := few_law hC; rwa [List.length_map] at this
      have HNB4 := Lib.hid (hU2.hb (HB.new wr TWide [.int .i64 0, .int .u64 0]) HGO.out)
      have HU4 := Lib.hid (hU2.low (HU.out.alloc (.cells #[.int .i64 0, .int .u64 0] TWide)) (fun b hb => (HS.out.lo b hb).1))
      have HMI4 := Lib.hid (show w4.ownsRow w.heap.size TRowG 9 (.slice Am M.length cm) M.length (M.flatMap rowC) from by
        obtain ⟨T, k1, k2⟩ := hU2
        exact own_upd (own_upd HMI.out ((Upd.refl [] wr).alloc (.cells #[.int .i64 0, .int .u64 0] TWide)) (by simp)) k1 (fun g hg hm => HO.out g hg (k2 g hm)))
      have HGM := Lib.hid (show ∀ g, (Value.slice Am M.length cm).ownBlock = some g → g < wr.heap.size from fun g hg => own_lt HMI.out g hg)
      have HS4 := Lib.hid hS2
      have HGN := Lib.hid (show ¬ O2 wr.heap.size from fun h => HGO.out (hO2 _ h))
      have HW4 := Lib.hid (show WinsAt w4 (wr.heap.size + 1) w.heap.size (.slice Ax cw.length cx) cw from by simpa using hW)
      have HGL := Lib.hid (show w.heap.size ≤ wr.heap.size from HU.out.size)
      obtain ⟨gv, hgv, hgf⟩ := gau_law HOK.out.1 nm hC
      have HGV := Lib.hid hgv
      have HGF := Lib.hid hgf
      clear hcx hC hW hS2 hO2 hN2 hU2 HCL hgv hgf
      generalize wr.heap.size = nb at *
      clear HS HMI HU HO
      go_wp2_with fail
      go_loopw [10, 67] (fun mt i wr => ∃ q : Nat, q ≤ cw.length ∧ mt = .bool (gv q).isSome ∧ i = .int .i64 q ∧ HB wr nb TWide (wC ((gv q).getD 0)) ∧ Upd [nb] w4 wr) (fun m i _ => cw.length - (intOf i).toNat)
      case atStart => exact ⟨0, Nat.zero_le _, by rw [HGV.out.zero]; rfl, rfl, by rw [HGV.out.zero]; exact HNB4.out.upd0 (by repeat (first | exact Upd.refl _ _ | assumption | apply Upd.drewN | apply Upd.drew | apply Upd.alloc)), (show Upd [] w4 _ from by repeat (first | exact Upd.refl _ _ | assumption | apply Upd.drewN | apply Upd.drew | apply Upd.alloc)).of0⟩
      case round =>
        obtain ⟨q, hq, rfl, rfl, hgb, hU⟩ := hrel
        have HNB := Lib.hid hgb
        have HU := Lib.hid hU
        clear hgb hU
        by_cases hlt2 : q < cw.length
        · obtain ⟨c, hc⟩ : ∃ c, cw[q]? = some c := ⟨cw[q], List.getElem?_eq_getElem hlt2⟩
          obtain ⟨b, m, e, hbB, ⟨x0, x1⟩, hwin, hus, A', m', eT⟩ := HW4.out.at_ hc
          have HNX := Lib.hid (HGV.out.next q c hc)
          have HTL := Lib.hid (HGV.out.tal q c hc)
          have HVB := Lib.hid (HGV.out.bd q hq)
          obtain ⟨id, tv, us⟩ := c
          dsimp only at eT x0 x1 hus
          subst eT
          injection e with e1 e2 e3
          subst e1 e3
          have HWI := Lib.hid hwin
          have x0 := HU.out.cell x0 (by simp; omega)
          have x1 := HU.out.cell x1 (by simp; omega)
          rw [← HMQ.out] at HNX
          obtain ⟨V, hV⟩ : ∃ V, V = (gv q).getD 0 := ⟨_, rfl⟩
          obtain ⟨B0, hB0⟩ : ∃ B0, B0 = (gv q).isSome := ⟨_, rfl⟩
          rw [← hV] at HNB HNX HVB
          rw [← hB0] at HNX ⊢
          clear hc e2 hwin hV hB0
          go_wp2_with fail
          generalize wr = wo at *
          go_loopw [10, 13] (fun mt j wr => ∃ r : Nat, r ≤ M.length ∧ mt = .bool (B0 || !((M.take r).filter (atW id)).isEmpty) ∧ j = .int .i64 r ∧ HB wr nb TWide (wC (((M.take r).filter (atW id)).foldl gstep V)) ∧ HB wr wo.heap.size TWin [.int .i64 id, .slice A' us.length m'] ∧ Upd [nb] w4 wr) (fun m j _ => M.length - (intOf j).toNat)
          case atStart => exact ⟨0, Nat.zero_le _, by simp, rfl, HNB.out.upd0 (show Upd [] wo _ from by repeat (first | exact Upd.refl _ _ | assumption | apply Upd.drewN | apply Upd.drew | apply Upd.alloc)), (HB.new wo TWin [.int .i64 id, .slice A' us.length m']).upd0 (by repeat (first | exact Upd.refl _ _ | assumption | apply Upd.drewN | apply Upd.drew | apply Upd.alloc)), HU.out.then0 (by repeat (first | exact Upd.refl _ _ | assumption | apply Upd.drewN | apply Upd.drew | apply Upd.alloc))⟩
          case round =>
            clear x0 x1
            obtain ⟨r, hr, rfl, rfl, hnb, hwb, hU⟩ := hrel
            have HN2 := Lib.hid hnb
            have HWB := Lib.hid hwb
            have HU2 := Lib.hid hU
            clear hnb hwb hU
            have hmr : M.length ≤ 1048576 := by rw [HMQ.out]; exact Nat.le_trans (List.length_filter_le _ _) hrl
            by_cases hlt3 : r < M.length
            · obtain ⟨p2, hp2⟩ : ∃ p2, M[r]? = some p2 := ⟨M[r], List.getElem?_eq_getElem hlt3⟩
              have hst := gau_step hrl nm id V (by rw [← HMQ.out]; exact hp2)
              have hpt := gau_part hrl nm id V r
              have hpt2 := gau_part hrl nm id V (r + 1)
              have hvl := isG_val (n := nm) (rows := rows) (p := p2) (by rw [← HMQ.out]; exact List.mem_of_getElem? hp2)
              rw [← HMQ.out] at hst hpt hpt2
              obtain ⟨gm, eM, _, _⟩ := own_cell HMI4.out (r * 9 + 0) _ (flatMap_get rowC rowC_lenG M r p2 hp2 0 _ rfl)
              have hcc : ∀ j u, (rowC p2)[j]? = some u → w4.cell? ⟨gm, r * 9 + j, none⟩ = some u := fun j u hj => by
                obtain ⟨g2, e2, h2, _⟩ := own_cell HMI4.out (r * 9 + j) u (flatMap_get rowC rowC_lenG M r p2 hp2 j u hj)
                rw [eM] at e2
                injection e2 with e2
                injection e2 with e2
                rw [e2]
                exact h2
              subst eM
              have hgm : gm < nb := HGM.out gm rfl
              obtain ⟨i2, e2⟩ := p2
              obtain ⟨P, hP⟩ : ∃ P, P = ((M.take r).filter (atW id)).foldl gstep V := ⟨_, rfl⟩
              obtain ⟨BB, hBB⟩ : ∃ BB, BB = (B0 || !((M.take r).filter (atW id)).isEmpty) := ⟨_, rfl⟩
              rw [← hP] at HN2 hpt
              rw [← hBB]
              have hv0 := HU2.out.cell (hcc 0 _ rfl) (by simp; omega)
              rw [Nat.add_zero] at hv0
              have HV0 := Lib.hid hv0
              have HV3 := Lib.hid (hcc 3 _ rfl)
              have v4 := HU2.out.cell (hcc 4 _ rfl) (by simp; omega)
              have hln := HN2.out.lt
              have HWN := Lib.hid (show wo.heap.size ≠ nb from fun e => by have := HNB.out.lt; omega)
              have x0 := fun z : Wd [] wr => z.h.cell HV0.out (by simp)
              have y0 := fun z : Wd [] wr => z.h.cell (HWB.out.cell (j := 0) rfl) (by simp)
              by_cases hid : i2 = id
              · subst hid
                rw [if_pos rfl] at hst
                have HBF := Lib.hid (show (B0 || !((M.take (r + 1)).filter (atW i2)).isEmpty) = true from by rw [hst]; simp)
                have HB1 := Lib.hid hvl.1
                have hqr : q ≤ 1048576 := by omega
                have hVB := HVB.out
                have hqq : q * 1048576000000000000000 ≤ 1048576 * 1048576000000000000000 := Nat.mul_le_mul_right _ hqr
                have hvl2 := hvl.2
                dsimp only at hvl2
                by_cases hd : e2.delta = true
                · have HPF := Lib.hid (show wC (((M.take (r + 1)).filter (atW i2)).foldl gstep V) = wC (P + e2.value) from by rw [hst, List.foldl_append, ← hP]; simp [gstep, hd])
                  obtain ⟨s0, hs0⟩ : ∃ s0, s0 = P := ⟨_, rfl⟩
                  rw [← hs0] at HPF hpt HN2
                  have HB2 := Lib.hid (show I128 s0 from by unfold I128; omega)
                  have HB3 := Lib.hid (show I128 (s0 + e2.value) from by unfold I128; omega)
                  obtain ⟨W3, hW3⟩ : ∃ W3, W3 = wr.drew := ⟨_, rfl⟩
                  have hUW : Upd [] wr W3 := by rw [hW3]; exact (Upd.refl [] wr).drew
                  have HN3 := Lib.hid (HN2.out.upd0 hUW)
                  have HT3 := Lib.hid (HWB.out.upd0 hUW)
                  have HU3 := Lib.hid (HU2.out.then0 hUW)
                  clear hst hP hBB hp2 hpt hpt2 hvl hvl2 hcc hv0 hs0 hqr hVB hqq hUW
                  go_wp2_with fail
                  refine mix_start (n := 8) 8 (fun w' => ∃ p : Wd [] wr, w' = p.v) (by kernel_rfl) (by kernel_rfl) ?_
                  refine mix_quiet [true, true, true, true, true, true, true, true] 0 rfl (by kernel_rfl) (by kernel_rfl) (by kernel_rfl) (by kernel_rfl) ⟨⟨_, (Upd.refl [] wr).drew⟩, rfl⟩ ?_
                  simp only [maskL]
                  repeat (go_big_quiet_step (fail))
                  refine wpQuiet_nil ?_
                  refine mix_end (by kernel_rfl) ?_
                  clear x0 y0
                  go_upto_region 22 with fail
                  rw [← hW3]
                  clear hW3 v4 hd
                  have v3 := fun z : Wd [nb] W3 => z.h.cell (HU3.out.cell HV3.out (by simp; omega)) (by simp; omega)
                  refine mix_start (n := 13) 13 (fun w' => ∃ p : Wd [nb] W3, w' = p.v) (by kernel_rfl) (by kernel_rfl) ?_
                  refine mix_quiet [false, true, true, true, true, true, true] 7 rfl (by kernel_rfl) (by kernel_rfl) (by kernel_rfl) (by kernel_rfl) ⟨⟨_, (Upd.refl [nb] W3).drew⟩, rfl⟩ ?_
                  simp only [maskL]
                  repeat (go_big_quiet_step (fail))
                  refine wpQuiet_nil ?_
                  clear v3
                  refine mix_two 0 7 (by kernel_rfl) (by kernel_rfl) (by kernel_rfl) rfl rfl ?_ ?_
                  · intro K QF hK
                    have k0 := HN3.out.cell (j := 0) rfl
                    have k1 := HN3.out.cell (j := 1) rfl
                    go_wp2_with fail
                    refine hK _ _ ⟨⟨_, ((Upd.refl [nb] W3).drew)⟩, rfl⟩ ?_
                    clear hK K QF
                    clear k0 k1
                    refine mix_one 7 (by kernel_rfl) (by kernel_rfl) rfl ?_
                    intro K QF hK
                    go_wp2_with fail
                    refine (of_calls _ HB1.out _).mono ?_
                    rintro y w5 ⟨rfl, hU5⟩
                    have HU5 := Lib.hid (show Upd [] W3 w5 from (Upd.refl [] W3).drew.then hU5)
                    clear hU5
                    go_wp2_with fail
                    refine hK _ _ ⟨⟨_, HU5.out.of0⟩, rfl⟩ ?_
                    clear hK K QF
                    refine mix_one 8 (by kernel_rfl) (by kernel_rfl) rfl ?_
                    intro K QF hK
                    go_wp2_with fail
                    refine (add_calls _ _ HB2.out HB1.out.to _).mono ?_
                    rintro y w6 ⟨rfl, hU6⟩
                    have HU6 := Lib.hid (HU5.out.then hU6)
                    rw [wres_in HB3.out]
                    clear hU6
                    go_wp2_with fail
                    refine hK _ _ ⟨⟨_, HU6.out.of0⟩, rfl⟩ ?_
                    clear hK K QF
                    refine mix_quiet [false, false, false, false, false, false, false, false, false, true, true, true] 1 rfl (by kernel_rfl) (by kernel_rfl) (by kernel_rfl) (by kernel_rfl) ⟨⟨_, HU6.out.of0⟩, rfl⟩ ?_
                    simp only [maskL]
                    repeat (go_big_quiet_step (fail))
                    refine wpQuiet_nil ?_
                    refine mix_one 12 (by kernel_rfl) (by kernel_rfl) rfl ?_
                    intro K QF hK
                    have HN6 := Lib.hid (HN3.out.upd0 HU6.out)
                    have k0 := HN6.out.cell (j := 0) rfl
                    have k1 := HN6.out.cell (j := 1) rfl
                    have f0 := HN6.out.free 0
                    have f1 := HN6.out.free 1
                    go_wp2_with fail
                    refine hK _ _ ⟨⟨_, ((HU6.out.of0.setCell (p := ⟨nb, 0, none⟩) (.inl (by simp)) (.int .i64 (wh (s0 + e2.value)))).setCell (p := ⟨nb, 1, none⟩) (.inl (by simp)) (.int .u64 (wl (s0 + e2.value))))⟩, rfl⟩ ?_
                    clear hK K QF
                    clear k0 k1 f0 f1
                    refine mix_end (by kernel_rfl) ?_
                    go_wp2_with fail
                    go_roundw
                    case rel => exact ⟨r + 1, by omega, by rw [HBF.out], by go_num, by rw [HPF.out]; exact (HN6.out.set 0 (.int .i64 (wh (s0 + e2.value)))).set 1 (.int .u64 (wl (s0 + e2.value))), ((HT3.out.upd0 HU6.out).setNe (p := ⟨nb, 0, none⟩) HWN.out _).setNe (p := ⟨nb, 1, none⟩) HWN.out _, ((HU3.out.then0 HU6.out).setCell (p := ⟨nb, 0, none⟩) (.inl (by simp)) _).setCell (p := ⟨nb, 1, none⟩) (.inl (by simp)) _⟩
                    case measure => simp [intOf]; omega
                  · intro K QF hK
                    go_wp2_with fail
                    refine (of_calls _ HB1.out _).mono ?_
                    rintro y w5 ⟨rfl, hU5⟩
                    have HU5 := Lib.hid (show Upd [] W3 w5 from (Upd.refl [] W3).drew.then hU5)
                    clear hU5
                    have k0 := HU5.out.cell (HN3.out.cell (j := 0) rfl) (by simp)
                    have k1 := HU5.out.cell (HN3.out.cell (j := 1) rfl) (by simp)
                    go_wp2_with fail
                    refine hK _ _ ⟨⟨_, HU5.out.of0⟩, rfl⟩ ?_
                    clear hK K QF
                    refine mix_one 0 (by kernel_rfl) (by kernel_rfl) rfl ?_
                    intro K QF hK
                    go_wp2_with fail
                    refine hK _ _ ⟨⟨_, HU5.out.of0⟩, rfl⟩ ?_
                    clear hK K QF
                    clear k0 k1
                    refine mix_one 8 (by kernel_rfl) (by kernel_rfl) rfl ?_
                    intro K QF hK
                    go_wp2_with fail
                    refine (add_calls _ _ HB2.out HB1.out.to _).mono ?_
                    rintro y w6 ⟨rfl, hU6⟩
                    have HU6 := Lib.hid (HU5.out.then hU6)
                    rw [wres_in HB3.out]
                    clear hU6
                    go_wp2_with fail
                    refine hK _ _ ⟨⟨_, HU6.out.of0⟩, rfl⟩ ?_
                    clear hK K QF
                    refine mix_quiet [false, false, false, false, false, false, false, false, false, true, true, true] 1 rfl (by kernel_rfl) (by kernel_rfl) (by kernel_rfl) (by kernel_rfl) ⟨⟨_, HU6.out.of0⟩, rfl⟩ ?_
                    simp only [maskL]
                    repeat (go_big_quiet_step (fail))
                    refine wpQuiet_nil ?_
                    refine mix_one 12 (by kernel_rfl) (by kernel_rfl) rfl ?_
                    intro K QF hK
                    have HN6 := Lib.hid (HN3.out.upd0 HU6.out)
                    have k0 := HN6.out.cell (j := 0) rfl
                    have k1 := HN6.out.cell (j := 1) rfl
                    have f0 := HN6.out.free 0
                    have f1 := HN6.out.free 1
                    go_wp2_with fail
                    refine hK _ _ ⟨⟨_, ((HU6.out.of0.setCell (p := ⟨nb, 0, none⟩) (.inl (by simp)) (.int .i64 (wh (s0 + e2.value)))).setCell (p := ⟨nb, 1, none⟩) (.inl (by simp)) (.int .u64 (wl (s0 + e2.value))))⟩, rfl⟩ ?_
                    clear hK K QF
                    clear k0 k1 f0 f1
                    refine mix_end (by kernel_rfl) ?_
                    go_wp2_with fail
                    go_roundw
                    case rel => exact ⟨r + 1, by omega, by rw [HBF.out], by go_num, by rw [HPF.out]; exact (HN6.out.set 0 (.int .i64 (wh (s0 + e2.value)))).set 1 (.int .u64 (wl (s0 + e2.value))), ((HT3.out.upd0 HU6.out).setNe (p := ⟨nb, 0, none⟩) HWN.out _).setNe (p := ⟨nb, 1, none⟩) HWN.out _, ((HU3.out.then0 HU6.out).setCell (p := ⟨nb, 0, none⟩) (.inl (by simp)) _).setCell (p := ⟨nb, 1, none⟩) (.inl (by simp)) _⟩
                    case measure => simp [intOf]; omega
                · have hd' : e2.delta = false := by simpa using hd
                  have HPF := Lib.hid (show wC (((M.take (r + 1)).filter (atW i2)).foldl gstep V) = wC (0 + e2.value) from by rw [hst, List.foldl_append, ← hP]; simp [gstep, hd'])
                  obtain ⟨s0, hs0⟩ : ∃ s0 : Int, s0 = 0 := ⟨_, rfl⟩
                  rw [← hs0] at HPF
                  have HB2 := Lib.hid (show I128 s0 from by unfold I128; omega)
                  have HB3 := Lib.hid (show I128 (s0 + e2.value) from by unfold I128; omega)
                  obtain ⟨W3, hW3⟩ : ∃ W3, W3 = ((wr.setCell ⟨nb, 0, none⟩ (.int .i64 0)).setCell ⟨nb, 1, none⟩ (.int .u64 0)).drew := ⟨_, rfl⟩
                  have hn3 := ((HN2.out.set 0 (.int .i64 0)).set 1 (.int .u64 0)).drew
                  have ht3 := ((HWB.out.setNe (p := ⟨nb, 0, none⟩) HWN.out (.int .i64 0)).setNe (p := ⟨nb, 1, none⟩) HWN.out (.int .u64 0)).drew
                  have hu3 := ((HU2.out.setCell (p := ⟨nb, 0, none⟩) (.inl (by simp)) (.int .i64 0)).setCell (p := ⟨nb, 1, none⟩) (.inl (by simp)) (.int .u64 0)).drew
                  rw [← hW3] at hn3 ht3 hu3
                  have HN3 := Lib.hid (show HB W3 nb TWide (wC s0) from by rw [hs0]; exact hn3)
                  have HT3 := Lib.hid ht3
                  have HU3 := Lib.hid hu3
                  have t0 := HN2.out.cell (j := 0) rfl
                  have t1 := HN2.out.cell (j := 1) rfl
                  have f0 := HN2.out.free 0
                  have f1 := HN2.out.free 1
                  clear hst hP hBB hp2 hpt hpt2 hvl hvl2 hcc hv0 hs0 hqr hVB hqq hd hn3 ht3 hu3
                  go_wp2_with fail
                  refine mix_start (n := 8) 8 (fun w' => ∃ p : Wd [] wr, w' = p.v) (by kernel_rfl) (by kernel_rfl) ?_
                  refine mix_quiet [true, true, true, true, true, true, true, true] 0 rfl (by kernel_rfl) (by kernel_rfl) (by kernel_rfl) (by kernel_rfl) ⟨⟨_, (Upd.refl [] wr).drew⟩, rfl⟩ ?_
                  simp only [maskL]
                  repeat (go_big_quiet_step (fail))
                  refine wpQuiet_nil ?_
                  refine mix_end (by kernel_rfl) ?_
                  clear x0 y0
                  go_upto_region 22 with fail
                  rw [← hW3]
                  clear hW3 v4 hd' t0 t1 f0 f1
                  have v3 := fun z : Wd [nb] W3 => z.h.cell (HU3.out.cell HV3.out (by simp; omega)) (by simp; omega)
                  refine mix_start (n := 13) 13 (fun w' => ∃ p : Wd [nb] W3, w' = p.v) (by kernel_rfl) (by kernel_rfl) ?_
                  refine mix_quiet [false, true, true, true, true, true, true] 7 rfl (by kernel_rfl) (by kernel_rfl) (by kernel_rfl) (by kernel_rfl) ⟨⟨_, (Upd.refl [nb] W3).drew⟩, rfl⟩ ?_
                  simp only [maskL]
                  repeat (go_big_quiet_step (fail))
                  refine wpQuiet_nil ?_
                  clear v3
                  refine mix_two 0 7 (by kernel_rfl) (by kernel_rfl) (by kernel_rfl) rfl rfl ?_ ?_
                  · intro K QF hK
                    have k0 := HN3.out.cell (j := 0) rfl
                    have k1 := HN3.out.cell (j := 1) rfl
                    go_wp2_with fail
                    refine hK _ _ ⟨⟨_, ((Upd.refl [nb] W3).drew)⟩, rfl⟩ ?_
                    clear hK K QF
                    clear k0 k1
                    refine mix_one 7 (by kernel_rfl) (by kernel_rfl) rfl ?_
                    intro K QF hK
                    go_wp2_with fail
                    refine (of_calls _ HB1.out _).mono ?_
                    rintro y w5 ⟨rfl, hU5⟩
                    have HU5 := Lib.hid (show Upd [] W3 w5 from (Upd.refl [] W3).drew.then hU5)
                    clear hU5
                    go_wp2_with fail
                    refine hK _ _ ⟨⟨_, HU5.out.of0⟩, rfl⟩ ?_
                    clear hK K QF
                    refine mix_one 8 (by kernel_rfl) (by kernel_rfl) rfl ?_
                    intro K QF hK
                    go_wp2_with fail
                    refine (add_calls _ _ HB2.out HB1.out.to _).mono ?_
                    rintro y w6 ⟨rfl, hU6⟩
                    have HU6 := Lib.hid (HU5.out.then hU6)
                    rw [wres_in HB3.out]
                    clear hU6
                    go_wp2_with fail
                    refine hK _ _ ⟨⟨_, HU6.out.of0⟩, rfl⟩ ?_
                    clear hK K QF
                    refine mix_quiet [false, false, false, false, false, false, false, false, false, true, true, true] 1 rfl (by kernel_rfl) (by kernel_rfl) (by kernel_rfl) (by kernel_rfl) ⟨⟨_, HU6.out.of0⟩, rfl⟩ ?_
                    simp only [maskL]
                    repeat (go_big_quiet_step (fail))
                    refine wpQuiet_nil ?_
                    refine mix_one 12 (by kernel_rfl) (by kernel_rfl) rfl ?_
                    intro K QF hK
                    have HN6 := Lib.hid (HN3.out.upd0 HU6.out)
                    have k0 := HN6.out.cell (j := 0) rfl
                    have k1 := HN6.out.cell (j := 1) rfl
                    have f0 := HN6.out.free 0
                    have f1 := HN6.out.free 1
                    go_wp2_with fail
                    refine hK _ _ ⟨⟨_, ((HU6.out.of0.setCell (p := ⟨nb, 0, none⟩) (.inl (by simp)) (.int .i64 (wh (s0 + e2.value)))).setCell (p := ⟨nb, 1, none⟩) (.inl (by simp)) (.int .u64 (wl (s0 + e2.value))))⟩, rfl⟩ ?_
                    clear hK K QF
                    clear k0 k1 f0 f1
                    refine mix_end (by kernel_rfl) ?_
                    go_wp2_with fail
                    go_roundw
                    case rel => exact ⟨r + 1, by omega, by rw [HBF.out], by go_num, by rw [HPF.out]; exact (HN6.out.set 0 (.int .i64 (wh (s0 + e2.value)))).set 1 (.int .u64 (wl (s0 + e2.value))), ((HT3.out.upd0 HU6.out).setNe (p := ⟨nb, 0, none⟩) HWN.out _).setNe (p := ⟨nb, 1, none⟩) HWN.out _, ((HU3.out.then0 HU6.out).setCell (p := ⟨nb, 0, none⟩) (.inl (by simp)) _).setCell (p := ⟨nb, 1, none⟩) (.inl (by simp)) _⟩
                    case measure => simp [intOf]; omega
                  · intro K QF hK
                    go_wp2_with fail
                    refine (of_calls _ HB1.out _).mono ?_
                    rintro y w5 ⟨rfl, hU5⟩
                    have HU5 := Lib.hid (show Upd [] W3 w5 from (Upd.refl [] W3).drew.then hU5)
                    clear hU5
                    have k0 := HU5.out.cell (HN3.out.cell (j := 0) rfl) (by simp)
                    have k1 := HU5.out.cell (HN3.out.cell (j := 1) rfl) (by simp)
                    go_wp2_with fail
                    refine hK _ _ ⟨⟨_, HU5.out.of0⟩, rfl⟩ ?_
                    clear hK K QF
                    refine mix_one 0 (by kernel_rfl) (by kernel_rfl) rfl ?_
                    intro K QF hK
                    go_wp2_with fail
                    refine hK _ _ ⟨⟨_, HU5.out.of0⟩, rfl⟩ ?_
                    clear hK K QF
                    clear k0 k1
                    refine mix_one 8 (by kernel_rfl) (by kernel_rfl) rfl ?_
                    intro K QF hK
                    go_wp2_with fail
                    refine (add_calls _ _ HB2.out HB1.out.to _).mono ?_
                    rintro y w6 ⟨rfl, hU6⟩
                    have HU6 := Lib.hid (HU5.out.then hU6)
                    rw [wres_in HB3.out]
                    clear hU6
                    go_wp2_with fail
                    refine hK _ _ ⟨⟨_, HU6.out.of0⟩, rfl⟩ ?_
                    clear hK K QF
                    refine mix_quiet [false, false, false, false, false, false, false, false, false, true, true, true] 1 rfl (by kernel_rfl) (by kernel_rfl) (by kernel_rfl) (by kernel_rfl) ⟨⟨_, HU6.out.of0⟩, rfl⟩ ?_
                    simp only [maskL]
                    repeat (go_big_quiet_step (fail))
                    refine wpQuiet_nil ?_
                    refine mix_one 12 (by kernel_rfl) (by kernel_rfl) rfl ?_
                    intro K QF hK
                    have HN6 := Lib.hid (HN3.out.upd0 HU6.out)
                    have k0 := HN6.out.cell (j := 0) rfl
                    have k1 := HN6.out.cell (j := 1) rfl
                    have f0 := HN6.out.free 0
                    have f1 := HN6.out.free 1
                    go_wp2_with fail
                    refine hK _ _ ⟨⟨_, ((HU6.out.of0.setCell (p := ⟨nb, 0, none⟩) (.inl (by simp)) (.int .i64 (wh (s0 + e2.value)))).setCell (p := ⟨nb, 1, none⟩) (.inl (by simp)) (.int .u64 (wl (s0 + e2.value))))⟩, rfl⟩ ?_
                    clear hK K QF
                    clear k0 k1 f0 f1
                    refine mix_end (by kernel_rfl) ?_
                    go_wp2_with fail
                    go_roundw
                    case rel => exact ⟨r + 1, by omega, by rw [HBF.out], by go_num, by rw [HPF.out]; exact (HN6.out.set 0 (.int .i64 (wh (s0 + e2.value)))).set 1 (.int .u64 (wl (s0 + e2.value))), ((HT3.out.upd0 HU6.out).setNe (p := ⟨nb, 0, none⟩) HWN.out _).setNe (p := ⟨nb, 1, none⟩) HWN.out _, ((HU3.out.then0 HU6.out).setCell (p := ⟨nb, 0, none⟩) (.inl (by simp)) _).setCell (p := ⟨nb, 1, none⟩) (.inl (by simp)) _⟩
                    case measure => simp [intOf]; omega
              · have d1 : (i2 == id) = false := by simpa using hid
                rw [if_neg hid, List.append_nil] at hst
                have HST := Lib.hid hst
                have HPQ := Lib.hid hP
                have HBQ := Lib.hid hBB
                clear hst hP hBB hid hp2 hpt hpt2 hvl hcc hv0 v4
                go_wp2_with fail
                refine mix_start (n := 8) 8 (fun w' => ∃ p : Wd [] wr, w' = p.v) (by kernel_rfl) (by kernel_rfl) ?_
                refine mix_quiet [true, true, true, true, true, true, true, true] 0 rfl (by kernel_rfl) (by kernel_rfl) (by kernel_rfl) (by kernel_rfl) ⟨⟨_, (Upd.refl [] wr).drew⟩, rfl⟩ ?_
                simp only [maskL]
                repeat (go_big_quiet_step (fail))
                refine wpQuiet_nil ?_
                refine mix_end (by kernel_rfl) ?_
                go_wp2_with fail
                go_roundw
                case rel => exact ⟨r + 1, by omega, by rw [HST.out, ← HBQ.out], by go_num, by rw [HST.out, ← HPQ.out]; exact HN2.out.upd0 (by repeat (first | exact Upd.refl _ _ | assumption | apply Upd.drewN | apply Upd.drew | apply Upd.alloc)), HWB.out.upd0 (by repeat (first | exact Upd.refl _ _ | assumption | apply Upd.drewN | apply Upd.drew | apply Upd.alloc)), HU2.out.then0 (by repeat (first | exact Upd.refl _ _ | assumption | apply Upd.drewN | apply Upd.drew | apply Upd.alloc))⟩
                case measure => simp [intOf]; omega
            · obtain rfl : r = M.length := by omega
              rw [List.take_length] at HN2
              simp only [List.take_length]
              rw [← HNX.out.1] at HN2
              rw [← HNX.out.2]
              have y1 := HWB.out.cell (j := 1) rfl
              obtain ⟨V2, hV2⟩ : ∃ V2, V2 = (gv (q + 1)).getD 0 := ⟨_, rfl⟩
              rw [← hV2] at HN2
              have HV2 := Lib.hid hV2
              clear hV2
              go_wp2_with fail
              clear y1
              generalize wr = wp at *
              go_loopw [108] (fun j wr => ∃ r : Nat, r ≤ us.length ∧ j = .int .i64 r ∧ HB wr nb TWide (wC V2) ∧ Upd [nb] w4 wr) (fun j _ => us.length - (intOf j).toNat)
              case atStart => exact ⟨0, Nat.zero_le _, rfl, HN2.out.upd0 (by repeat (first | exact Upd.refl _ _ | assumption | apply Upd.drewN | apply Upd.drew | apply Upd.alloc)), HU2.out.then0 (by repeat (first | exact Upd.refl _ _ | assumption | apply Upd.drewN | apply Upd.drew | apply Upd.alloc))⟩
              case round =>
                obtain ⟨r, hr, rfl, hnb, hU⟩ := hrel
                have HN3 := Lib.hid hnb
                have HU3 := Lib.hid hU
                clear hnb hU
                by_cases hlt4 : r < us.length
                · obtain ⟨u, hu⟩ : ∃ u, us[r]? = some u := ⟨us[r], List.getElem?_eq_getElem hlt4⟩
                  obtain ⟨b2, m2, SA, SC, MA, MC, e, hb2, hc, _, _⟩ := HWI.out.at_ hu
                  injection e with e1 e2 e3
                  subst e1 e3
                  have htl := HTL.out u.2 (List.mem_map_of_mem (List.mem_of_getElem? hu))
                  have hcc : ∀ x y, (talC u.2 SA SC MA MC)[x]? = some y → wr.cell? ⟨b2, r * 9 + x, none⟩ = some y := fun x y hy => HU3.out.cell (hc x y hy) (by simp; omega)
                  generalize u.2 = l at *
                  have c0 := hcc 0 _ rfl
                  have c1 := hcc 1 _ rfl
                  have c2 := hcc 2 _ rfl
                  have c3 := hcc 3 _ rfl
                  have c4 := hcc 4 _ rfl
                  have c5 := hcc 5 _ rfl
                  have c6 := hcc 6 _ rfl
                  have c7 := hcc 7 _ rfl
                  have c8 := hcc 8 _ rfl
                  simp only [Nat.add_zero] at c0
                  obtain ⟨W3, hW3⟩ : ∃ W3, W3 = wr.alloc (.cells #[.int .i64 l.k, .string l.n, .int .i64 l.c, .int .i64 (wh l.sum), .int .u64 (wl l.sum), .int .i64 (wh l.wt), .int .u64 (wl l.wt), .slice SA l.smp.length SC, .slice MA l.mem.length MC] TTal) := ⟨_, rfl⟩
                  have HT3 := Lib.hid (show HB W3 wr.heap.size TTal (talC l SA SC MA MC) from by rw [hW3]; exact HB.new wr TTal (talC l SA SC MA MC))
                  have HG3 := Lib.hid (show HB W3 nb TWide (wC V2) from by rw [hW3]; exact HN3.out.alloc _)
                  have HU4 := Lib.hid (show Upd [nb] w4 W3 from by rw [hW3]; exact HU3.out.alloc _)
                  have HTQ := Lib.hid htl
                  clear htl hc hcc e2 hu
                  go_upto_region 27 with fail
                  rw [← hW3]
                  clear hW3 c0 c1 c2 c3 c4 c5 c6 c7 c8
                  have t0 := HT3.out.cell (j := 0) rfl
                  have t1 := HT3.out.cell (j := 1) rfl
                  have t3 := HT3.out.cell (j := 3) rfl
                  have t4 := HT3.out.cell (j := 4) rfl
                  have g0 := HG3.out.cell (j := 0) rfl
                  have g1 := HG3.out.cell (j := 1) rfl
                  by_cases q1 : l.k = 2
                  · have d1 : (l.k == 2) = true := by simpa using q1
                    by_cases q2 : l.n = nm
                    · have d2 : l.n.toList = nm.toList := by rw [q2]
                      rw [HTQ.out q1 q2, ← HV2.out] at t3 t4
                      clear q1 q2
                      go_wp2_with fail
                      go_roundw
                      case rel => exact ⟨r + 1, by omega, by go_num, HG3.out.upd0 (by repeat (first | exact Upd.refl _ _ | assumption | apply Upd.drewN | apply Upd.drew | apply Upd.alloc)), HU4.out.then0 (by repeat (first | exact Upd.refl _ _ | assumption | apply Upd.drewN | apply Upd.drew | apply Upd.alloc))⟩
                      case measure => simp [intOf]; omega
                    · have d2 : (l.n.toList == nm.toList) = false := beq_eq_false_iff_ne.2 (fun h => q2 (toList_inj.1 h))
                      clear q1 q2
                      go_wp2_with fail
                      go_roundw
                      case rel => exact ⟨r + 1, by omega, by go_num, HG3.out.upd0 (by repeat (first | exact Upd.refl _ _ | assumption | apply Upd.drewN | apply Upd.drew | apply Upd.alloc)), HU4.out.then0 (by repeat (first | exact Upd.refl _ _ | assumption | apply Upd.drewN | apply Upd.drew | apply Upd.alloc))⟩
                      case measure => simp [intOf]; omega
                  · have d1 : (l.k == 2) = false := by simpa using q1
                    clear q1
                    go_wp2_with fail
                    go_roundw
                    case rel => exact ⟨r + 1, by omega, by go_num, HG3.out.upd0 (by repeat (first | exact Upd.refl _ _ | assumption | apply Upd.drewN | apply Upd.drew | apply Upd.alloc)), HU4.out.then0 (by repeat (first | exact Upd.refl _ _ | assumption | apply Upd.drewN | apply Upd.drew | apply Upd.alloc))⟩
                    case measure => simp [intOf]; omega
                · go_wp2_with fail
                  go_roundw
                  case rel => exact ⟨q + 1, by omega, rfl, by go_num, by rw [← HV2.out]; exact HN3.out, HU3.out⟩
                  case measure => simp [intOf]; omega
        · obtain rfl : q = cw.length := by omega
          rw [HGF.out] at HNB ⊢
          have HS5 := Lib.hid (HS4.out.upd HU.out (by intro b hb; simp at hb; subst hb; exact HGN.out))
          have HGA := Lib.hid (shGauge_calls w.heap.size a rows.length O2 A' nm wr HS5.out)
          have HF := Lib.hid (HU4.out.trans HU.out (fun _ h => h) (fun i hi => .inr (by simp at hi; have := HGL.out; omega)))
          go_wp2_with fail
          refine HGA.out.mono ?_
          rintro x w5 ⟨rfl, hU5⟩
          obtain ⟨V2, hV2⟩ : ∃ V2, V2 = (A'.g nm).getD 0 := ⟨_, rfl⟩
          obtain ⟨B2, hB2⟩ : ∃ B2, B2 = (A'.g nm).isSome := ⟨_, rfl⟩
          rw [← hV2] at HNB ⊢
          rw [← hB2]
          obtain ⟨W6, hW6⟩ : ∃ W6, W6 = w5.alloc (.cells #[.int .i64 (wh V2), .int .u64 (wl V2)] TWide) := ⟨_, rfl⟩
          have h0 : HB W6 w5.heap.size TWide (wC V2) := by rw [hW6]; exact HB.new w5 TWide (wC V2)
          have h1 : HB W6 nb TWide (wC V2) := by rw [hW6]; exact (HNB.out.upd0 hU5).alloc _
          have HF6 := Lib.hid (show Upd [] w W6 from by rw [hW6]; exact (HF.out.then hU5).alloc _)
          have t0 := h0.cell (j := 0) rfl
          have t1 := h0.cell (j := 1) rfl
          have s0 := h1.cell (j := 0) rfl
          have s1 := h1.cell (j := 1) rfl
          clear h0 h1 hV2 hB2 hU5
          go_upto_region 32 with fail
          rw [← hW6]
          clear hW6
          go_wp2
          go_ret
          exact ⟨rfl, HF6.out⟩
theorem aggGauges_calls (c0 : List Value) (x0 : GT.den (.slice gRow)) (c1 : List Value) (x1 : GT.den .str) (W : World) (h0 : Rd W (· < W.heap.size) (.slice gRow) c0 x0) (h1 : Rd W (· < W.heap.size) .str c1 x1) (hk : GT.bulk (.slice gRow) x0 + GT.bulk .str x1 ≤ 1048576) (hM : MaxL W) :
    Calls Tryz.prog 9 #[GT.val (.slice gRow) c0, GT.val .str c1] W fun e w' => e = .returned (.bool true) ∧ Upd [] W w' := by
  obtain ⟨v, rows, rfl, hR, hok, _⟩ := rd_rows h0 (by omega)
  obtain ⟨rfl, _⟩ := h1
  exact gauges_calls rows v x1 _ W hR (fun b h => h) hok hM
end Go.Proofs.YthbjpoiolmlpmaaGreatDoor
