/- agg.Gauge, Open. -/
import Derived.Test.YthbjpoiolmlpmaaGreatDoorTeller
import Derived.Test.YthbjpoiolmlpmaaGreatDoorApl
set_option linter.unusedVariables false
set_option linter.unusedSimpArgs false
namespace Go.Proofs.YthbjpoiolmlpmaaGreatDoor
open Go.RowKit
theorem look_map {κ α : Type} [DecidableEq κ] (f : α → Value) (x : κ) (l : List (κ × α)) : look x (l.map fun p => (p.1, f p.2)) = ((l.find? fun p => p.1 = x).map (·.2)).map f := by
  unfold look
  have key : ∀ (l : List (κ × α)) (i : Nat), (place x (l.map fun p => (p.1, f p.2)) i).map (·.2) = ((l.find? fun p => p.1 = x).map (·.2)).map f := by
    intro l
    induction l with
    | nil => intro i; rfl
    | cons p l ih =>
      intro i
      simp only [List.map_cons, place, List.find?_cons]
      by_cases h : x = p.1
      · simp [h]
      · rw [if_neg h, ih (i + 1)]
        rw [show decide (p.1 = x) = false by simpa using fun e => h e.symm]
  exact key l 0
theorem look_gau (A : AgL) (x : ByteArray) : look x A.gau = (gl x A.gs).map wide := look_map wide x A.gs
theorem zeroW (w : World) : (zeroValue 39).run Tryz.prog w = .ok (wide 0) w := by kernel_rfl
theorem gauge_calls (base a : Nat) (own : Nat → Tag) (A : AgL) (nm : ByteArray) (w : World) (h : AggAt w base a own A) :
    Calls Tryz.prog 28 #[.pointer (some ⟨a, 0, none⟩), .string nm] w fun e w' => e = .returned (.tuple #[wide ((gl nm A.gs).getD 0), .bool (gl nm A.gs).isSome]) ∧ Upd [] w w' := by
  have hlk := run_lookup (P := Tryz.prog) klS Tryz.underlying74 (h.ga.upd ((Upd.refl [] w).alloc (.cells #[.int .i64 0, .int .u64 0] 39)) (by simp)) nm true (zeroW _)
  rw [look_gau] at hlk
  simp only [if_true] at hlk
  have HU := Lib.hid ((Upd.refl [] w).alloc (.cells #[.int .i64 0, .int .u64 0] 39))
  have hB1 := h.hb.alloc (.cells #[.int .i64 0, .int .u64 0] 39)
  have HB1 := Lib.hid hB1
  have hT := HB.new w 39 [.int .i64 0, .int .u64 0]
  have c1 := hB1.cell (j := 1) rfl
  go_enter Tryz.func28, Tryz.ntmps28
  go_wp2_with fail
  refine (made_calls hB1).mono ?_
  rintro e w1 ⟨rfl, rfl⟩
  go_wp2_with fail
  generalize gl nm A.gs = g at *
  have t0 := hT.cell (j := 0) rfl
  have t1 := hT.cell (j := 1) rfl
  refine bodyPost_ret (v := .tuple #[wide (g.getD 0), .bool g.isSome]) ?_ rfl ⟨rfl, ?_⟩
  · simp [results, Tryz.f28, go_sem, t0, t1, wide]
  · repeat (first | with_reducible exact Upd.refl _ _ | with_reducible refine Upd.drew ?_ | with_reducible refine Upd.alloc ?_ _ | (with_reducible refine Upd.setCell ?_ (.inr ?h) _; case h => (dsimp only; omega)))
theorem mk_ints (n : Nat) (hn : n ≤ 4194304) (W : World) : (Instr.makeSlice 51 (.int .i64 0) (.int .i64 (n : Int))).run Tryz.prog W = .ok (.slice (some ⟨W.heap.size, 0, none⟩) 0 n) (W.alloc (.cells (madeCells #[.int .i64 0] n) 2)) := by
  obtain ⟨i, hi, hzz⟩ := Option.map_eq_some_iff.1 infoI
  simp only [Prod.mk.injEq] at hzz
  obtain ⟨hz, hs, hb⟩ := hzz
  have h := run_make (P := Tryz.prog) W 51 2 i _ (by kernel_rfl) hi hz .i64 .i64 0 n (by omega) (by omega) (by rw [hb]; omega) (by omega)
  rw [hs] at h
  simp only [Int.toNat_natCast, Nat.mul_one] at h
  exact h
def wE (r : WR) : Int × Value := (r.id, .map (some r.b))
set_option maxHeartbeats 4000000 in
set_option maxRecDepth 20000 in
theorem open_calls (base a : Nat) (own : Nat → Tag) (A : AgL) (w : World) (h : AggAt w base a own A) (hn : A.ws.length ≤ 4194304) :
    Calls Tryz.prog 22 #[.pointer (some ⟨a, 0, none⟩)] w fun e w' => ∃ v, e = .returned v ∧ w'.ownsRow w.heap.size 2 1 v A.ws.length ((sortI (A.ws.map WR.id)).map (Value.int .i64)) ∧ Upd [] w w' := by
  have hB := h.hb
  have hM : MapAt w (Value.int .i64) A.b0 (A.ws.map wE) := h.op
  clear h
  obtain ⟨b0, b1, ws, gs, bd⟩ := A
  dsimp only at *
  have HB0 := Lib.hid hB
  have HM0 := Lib.hid hM
  have hmlt := hM.lt
  have hmk := mk_ints ws.length hn
  have hlen := run_len (P := Tryz.prog) Tryz.underlying73 hM 3
  rw [List.length_map] at hlen
  have c0 := hB.cell (j := 0) rfl
  have hl := World.ownsRow_made w (base := w.heap.size) (e := 2) (size := 1) (madeCells #[.int .i64 0] ws.length) ws.length (Nat.le_refl _) (by unfold maxLen; omega) (by simp [size_madeCells])
  have hU2 := (Upd.refl [] w).alloc (.cells (madeCells #[.int .i64 0] ws.length) 2)
  have c2 := (hB.alloc (.cells (madeCells #[.int .i64 0] ws.length) 2)).cell (j := 0) rfl
  obtain ⟨W2, hrun, hR, hU3, hs3⟩ := run_range (P := Tryz.prog) Tryz.underlying73 (hM.upd hU2 (by simp))
  have er : (w.alloc (.cells (madeCells #[.int .i64 0] ws.length) 2)).heap.size = w.heap.size + 1 := by simp
  rw [er] at hR
  have HR := Lib.hid hR
  have HL := Lib.hid (own_upd hl hU3 (by simp))
  have HU2 := Lib.hid (hU2.then hU3)
  clear hl hU2 hR hU3 er hM
  go_enter Tryz.func22, Tryz.ntmps22
  go_wp2_with fail
  refine (made_calls hB).mono ?_
  rintro e w1 ⟨rfl, rfl⟩
  go_wp2_with fail
  clear hrun hs3 hmk hlen c0 c2 hB HB0 HM0
  go_loopw [3] (fun va wr => ∃ (done : List Int) (left : List WR), (done ++ left.map WR.id).Perm (ws.map WR.id) ∧ RngAt wr (Value.int .i64) b0 (w1.heap.size + 1) (ws.map wE) (left.map wE) ∧ wr.ownsRow w1.heap.size 2 1 va done.length (done.map (Value.int .i64)) ∧ Upd [] w1 wr) (fun _ wr => wr.rangeLeft b0 (w1.heap.size + 1))
  case atStart => exact ⟨[], ws, .refl _, HR.out, by simpa using HL.out, HU2.out⟩
  case round =>
    obtain ⟨done, left, hpm, hrg, hown, hU⟩ := hrel
    have HRG := Lib.hid hrg
    have HO := Lib.hid hown
    have HU4 := Lib.hid hU
    have HPM := Lib.hid hpm
    clear hrg hown hU hpm HR HL
    rcases RngAt.next (P := Tryz.prog) HRG.out 0 with ⟨hnil, hnx⟩ | ⟨m1, k, v, m2, w5, hsp, hnx, hR5, hU5, hent⟩
    · obtain rfl : left = [] := by simpa using hnil
      rw [List.map_nil, List.append_nil] at HPM
      obtain ⟨A, cA, rfl, _, _, _⟩ := own_shape HO.out
      have hdl := HPM.out.length_eq
      rw [List.length_map] at hdl
      have hx : done.length < 4611686018427387904 := by omega
      have HDL := Lib.hid hdl
      have HX := Lib.hid hx
      clear hdl hx
      have HLO := Lib.hid (own_low HO.out)
      clear HRG hnil
      go_wp2_with fail
      refine (sortI_calls HO.out HX.out).mono ?_
      rintro e w6 ⟨rfl, ho6, hU6⟩
      rw [sortI_perm HPM.out] at ho6
      have HO6 := Lib.hid ho6
      have HU6 := Lib.hid (Upd.low HU4.out hU6 HLO.out)
      clear ho6 hU6
      go_wp2_with fail
      go_ret
      have h1 := HO6.out
      refine ⟨_, rfl, ?_, HU6.out⟩
      rw [HDL.out] at h1 ⊢
      exact h1
    · obtain ⟨l1, x, l2, rfl, h1, h2, h3⟩ := map_app wE hsp
      simp only [wE, Prod.mk.injEq] at h2
      obtain ⟨rfl, rfl⟩ := h2
      rw [← h1, ← h3, ← List.map_append] at hR5
      obtain ⟨A, cA, rfl, _, _, _⟩ := own_shape HO.out
      have hlen : (done ++ (l1 ++ x :: l2).map WR.id).length ≤ 4194304 := by rw [HPM.out.length_eq, List.length_map]; exact hn
      simp at hlen
      have hnr := own_ne_rng HO.out HRG.out
      have hlo := own_low HO.out
      have hle := HRG.out.left_eq
      have HO5 := Lib.hid (own_upd HO.out (hU5.alloc (.cells #[.int .i64 x.id] 2)) (fun g hg hm => hnr.2 (by simp at hm; subst hm; simp [hg])))
      have HNB := Lib.hid (HB.new w5 2 [.int .i64 x.id])
      have HS5 := Lib.hid (show w1.heap.size ≤ (w5.alloc (.cells #[.int .i64 x.id] 2)).heap.size by have := HU4.out.size; have := hU5.size; simp; omega)
      have HU6 := Lib.hid ((Upd.low HU4.out hU5 (by intro i hi; simp at hi; omega)).alloc (.cells #[.int .i64 x.id] 2))
      have HR6 := Lib.hid (hR5.upd ((Upd.refl [] w5).alloc (.cells #[.int .i64 x.id] 2)) (by simp) (by simp))
      have HNS := Lib.hid (And.intro hnr (And.intro hlo hle))
      clear hR5 hnr hlo hle hsp hU5
      go_wp2_with (at_builtin; go_must (refine wp_append1 w1.heap.size 51 2 _ 1 8 (.slice A done.length cA) done.length (done.map (Value.int .i64)) [.int .i64 x.id] _ rfl rfl (by kernel_rfl) infoI rfl (by decide) (by decide) rfl rfl rfl (by simp [Value.oneCell']) HO5.out HNB.out HS5.out (by omega) ?_))
      intro v1 w7 hown7 hU7 hat7
      obtain ⟨B, cB, rfl, _, _, _⟩ := own_shape hown7
      have HO7 := Lib.hid hown7
      have HU7 := Lib.hid hU7
      clear hown7 hU7 hat7
      go_wp2
      go_roundw
      case rel =>
        obtain ⟨⟨n1, n2⟩, n5, n6⟩ := HNS.out
        refine ⟨done ++ [x.id], l1 ++ l2, ?_, HR6.out.upd HU7.out n1 n2, ?_, Upd.low HU6.out HU7.out n5⟩
        · refine List.Perm.trans ?_ HPM.out
          rw [List.append_assoc]
          exact List.Perm.append_left done (by simpa using List.perm_middle.symm)
        · rw [List.map_append, List.length_append]
          exact HO7.out
      case measure =>
        obtain ⟨⟨n1, n2⟩, n5, n6⟩ := HNS.out
        rw [n6, (HR6.out.upd HU7.out n1 n2).left_eq]
        simp
end Go.Proofs.YthbjpoiolmlpmaaGreatDoor
