/- The laws' own beginning: a counter's event is told. -/
import Derived.Test.YthbjpoiolmlpmaaGreatDoorAgRd
set_option linter.unusedVariables false
set_option linter.unusedSimpArgs false
namespace Go.Proofs.YthbjpoiolmlpmaaGreatDoor
open Go.RowKit
theorem HB.own {w : World} {b base : Nat} {T : TypeId} {cs : List Value} (h : HB w b T cs) (n size : Nat) (hl : cs.length = n * size) (hb : base ≤ b) (hn : n ≤ maxLen) : w.ownsRow base T size (.slice (some ⟨b, 0, none⟩) n n) n cs :=
  ⟨hl, .inr ⟨b, n, cs.toArray, rfl, hb, h, Nat.le_refl _, hn, by simpa using hl, by rw [← hl]; simp⟩⟩
def evA : Ev := ⟨⟨#[97]⟩, 1, 2000000, false, ⟨#[]⟩, 500000, false, 0⟩
def tlA : TL := ⟨1, ⟨#[97]⟩, 1, 4000000, 0, [], []⟩
theorem chkA : chk evA = 0 := by kernel_rfl
theorem awA : ∃ A', Closes (AgE.new.apply 3 evA) 3 [(3, [tlA])] A' := by
  have e : AgE.new.apply 3 evA = ⟨[(3, evA)], fun _ => none, -9223372036854775808⟩ := by
    unfold AgE.apply
    rw [if_pos (by unfold acode; rw [if_pos chkA]; decide)]
    rfl
  rw [e]
  refine ⟨⟨[(3, evA)].filter (fun p => decide (3 < p.1)), gNext [(3, evA)] (fun _ => none) 3, 3⟩, ?_⟩
  unfold Closes
  rw [if_neg (by decide)]
  refine ⟨[3], _, ⟨by simp, fun i => by simp; omega⟩, .cons ⟨by simp, fun m => ?_, fun t ht => ?_⟩ (.nil _), rfl⟩
  · constructor
    · intro hm
      have e2 : m = tlA.met := by simpa using hm
      exact ⟨(3, evA), by simp, by rw [inM_iff]; exact ⟨rfl, e2.symm.trans rfl⟩⟩
    · rintro ⟨p, hp, hm⟩
      have e2 : p = (3, evA) := by simpa using hp
      subst e2
      have := (inM_iff.1 hm).2
      rw [← this]
      exact List.mem_cons_self
  · simp at ht
    subst ht
    rfl
set_option maxRecDepth 20000 in
set_option maxHeartbeats 2000000 in
theorem awake_calls (w : World) (hM : MaxL w) (h0 : 0 < w.heap.size) : Calls Tryz.prog 13 #[] w fun e w' => e = .returned (.bool true) ∧ Upd [] w w' := by
  go_enter Tryz.func13, Tryz.ntmps13
  go_wp2_with fail
  refine (shNew_calls w).mono ?_
  rintro e w1 ⟨a, O, rfl, hS, hU⟩
  have HS := Lib.hid hS
  have HU := Lib.hid hU
  have HAP := Lib.hid (shApply_calls w.heap.size a 0 O AgE.new 3 evA w1 hS (by decide) (hM.upd0 hU) (by decide) (by decide) hU.size h0)
  have hac : acode AgE.new.bd 3 evA = 0 := by unfold acode; rw [if_pos chkA]; decide
  rw [hac] at HAP
  clear hS hU hac
  go_wp2_with fail
  refine HAP.out.mono ?_
  rintro e w2 ⟨rfl, O2, hS2, hO2, hU2⟩
  have HS2 := Lib.hid hS2
  have HO2 := Lib.hid hO2
  have HU2 := Lib.hid hU2
  have HCL := Lib.hid (shClose_calls w.heap.size a 1 O2 _ 3 w2 hS2 (by decide) (by have := HU.out.size; have := hU2.size; omega))
  have HOK := Lib.hid hS2.ok
  clear hS2 hO2 hU2
  go_wp2_with fail
  refine HCL.out.mono ?_
  rintro e w3 ⟨v, cw, A', rfl, hC, hW, O3, hS3, hO3, hN3, hU3⟩
  obtain ⟨A2, hA2⟩ := awA
  have HE := Lib.hid (hC.unique hA2).1
  have HC := Lib.hid hC
  have HW := Lib.hid hW
  have HLO := Lib.hid HS.out.lo
  have HU3 := Lib.hid (show ∃ S, Upd S w w3 ∧ ∀ b ∈ S, w.heap.size ≤ b from by
    obtain ⟨S, k1, k2⟩ := HU2.out
    obtain ⟨T, j1, j2⟩ := hU3
    refine ⟨S ++ T, (HU.out.of0.trans k1 (U := S) (fun _ h => h) (fun _ h => .inl h)).trans j1 (fun i hi => List.mem_append_left _ hi) (fun i hi => .inl (List.mem_append_right _ hi)), fun b hb => ?_⟩
    rcases List.mem_append.1 hb with hb | hb
    · exact (HS.out.lo b (k2 b hb)).1
    · exact (HS2.out.lo b (j2 b hb)).1)
  clear hC hW hS3 hO3 hN3 hU3 hA2
  go_wp2_with fail
  obtain ⟨W4, hW4⟩ : ∃ W4, W4 = (w3.alloc (.cells #[.int .i64 1, .string ⟨#[97]⟩, .int .i64 1, .int .i64 0, .int .u64 4000000, .int .i64 0, .int .u64 0, .slice none 0 0, .slice none 0 0] TTal)).alloc (.cells #[.int .i64 3, .slice (some ⟨w3.heap.size, 0, none⟩) 1 1] TWin) := ⟨_, rfl⟩
  have hU4 : Upd [] w3 W4 := by rw [hW4]; exact ((Upd.refl [] w3).alloc _).alloc _
  have hb1 : HB W4 w3.heap.size TTal [.int .i64 1, .string ⟨#[97]⟩, .int .i64 1, .int .i64 0, .int .u64 4000000, .int .i64 0, .int .u64 0, .slice none 0 0, .slice none 0 0] := by rw [hW4]; exact (HB.new w3 TTal _).alloc _
  have hb2 : HB W4 (w3.heap.size + 1) TWin [.int .i64 3, .slice (some ⟨w3.heap.size, 0, none⟩) 1 1] := by rw [hW4]; exact HB.new1 w3 _ TWin _
  have HSM := Lib.hid (show Calls Tryz.prog 14 #[v, .slice (some ⟨w3.heap.size + 1, 0, none⟩) 1 1] W4 fun e w' => e = .returned (.bool true) ∧ Upd [] W4 w' from by
    refine sameW_calls (B := w2.heap.size) (base := w.heap.size) (B' := 0) (base' := 0) (cw := cw) (cw' := [⟨3, .slice (some ⟨w3.heap.size, 0, none⟩) 1 1, [(⟨1, ⟨#[97]⟩, 1, 0, 4000000, 0, 0, none, 0, 0, none, 0, 0⟩, tlA)]⟩]) ?_ ⟨?_, fun c hc => ?_, ?_⟩ ?_ ?_ ?_ (Nat.le_refl _)
    · exact HW.out.upd hU4 (by simp) (by simp)
    · exact hb2.own 1 2 rfl (Nat.zero_le _) (by decide)
    · simp at hc
      subst hc
      refine ⟨hb1.own 1 9 rfl (Nat.zero_le _) (by decide), fun u hu => ?_⟩
      simp at hu
      subst hu
      exact ⟨rfl, rfl, rfl, by decide, by decide, by decide, by decide, own_nilV _ _ _, own_nilV _ _ _⟩
    · simp [WCL.bl, TC.bl, TC.sv, TC.mv, Value.ownBlock]
    · rw [HE.out]; rfl
    · exact HC.out.wf HOK.out (by decide)
    · have h1 := HU.out.size
      have h2 := HU2.out.size
      omega)
  have HF := Lib.hid (show Upd [] w W4 from by
    obtain ⟨S, k1, k2⟩ := HU3.out
    exact (k1.mono (T := []) (fun i hi => .inr (k2 i hi))).then hU4)
  clear hb1 hb2 hU4
  rw [← hW4]
  clear hW4
  refine HSM.out.mono ?_
  rintro e w5 ⟨rfl, hU5⟩
  have HF5 := Lib.hid (HF.out.then hU5)
  clear hU5
  go_wp2
  go_ret
  exact ⟨rfl, HF5.out⟩
end Go.Proofs.YthbjpoiolmlpmaaGreatDoor
