/-
  Proved: AggJoins (second form: what it reads is of bulk at most 1048576), the row: out of the contract of its call (aggJoins_calls).
-/
import Derived.Test.YthbjpoiolmlpmaaJoins
import Derived.Test.YthbjpoiolmlpmaaLift
namespace Go.Proofs.Ythbjpoiolmlpmaa.rowAggJoins
open Go.RowKit Go.ChangeShapes Go.WideShapes Go.ChangeAt
set_option linter.unusedVariables false
set_option maxRecDepth 100000
theorem okP : Try.f3.params.toList.all (fun t => Try.prog.readableRec t && decide (t < Try.prog.types.size)) = true := by kernel_rfl
theorem ok0 : GT.okT Try.prog (.slice gTally) 22 = true := by kernel_rfl
theorem ok1 : GT.okT Try.prog (.slice gTally) 22 = true := by kernel_rfl
theorem ok2 : GT.okT Try.prog (.slice gTally) 22 = true := by kernel_rfl
theorem contract (H : Type) (enc : TypeId × Value → H) (W : World) (args : Array Value) (ds gs : List (DataW H)) (before : List MemPlace)
    (base : Nat) (hval : ∀ (j : Nat) t v, Try.f3.params[j]? = some t → args[j]? = some v → Value.okWide Try.prog W .any base t v) (hW : DataW.Whole enc Try.prog Try.f3.params.toList Rows.aggJoinsSpec.vars false W args.toList ds gs before) (hk : Rows.uptoSmall H (ds ++ gs) = true) :
    Calls Try.prog 3 args W fun e W' => ∃ v, e = .returned v ∧ Rows.aggJoinsSpec.post enc Try.prog Try.f3 false true false false W args v W' := by
  have hW' := hW
  obtain ⟨p, q, hA0, hV, rfl, hfz, hnd⟩ := hW
  have hA : DataW.TrodAll enc Try.prog W 0 (fun _ => true) true Try.f3.params.toList args.toList ds p := hA0
  rw [Try.params3] at hA
  obtain ⟨rfl, rfl⟩ := trodVars_none hV
  obtain ⟨v0, vs0, d0, ds0, p0, q0, hargs, rfl, rfl, h0, r0⟩ := trodAll_cons hA
  obtain ⟨v1, vs1, d1, ds1, p1, q1, rfl, rfl, rfl, h1, r1⟩ := trodAll_cons r0
  obtain ⟨v2, vs2, d2, ds2, p2, q2, rfl, rfl, rfl, h2, r2⟩ := trodAll_cons r1
  obtain ⟨rfl, rfl, rfl⟩ := trodAll_nil r2
  obtain rfl : args = #[v0, v1, v2] := by cases args; simp_all
  have e0 : v0 = GT.val (.slice gTally) v0.cells.toList := GT.val_of _ _ ok0 (hval 0 _ v0 rfl rfl)
  obtain ⟨n0, t0⟩ := h0
  obtain ⟨x0, hr0, hb0⟩ := openT _ _ _ _ _ ok0 t0
  have e1 : v1 = GT.val (.slice gTally) v1.cells.toList := GT.val_of _ _ ok1 (hval 1 _ v1 rfl rfl)
  obtain ⟨n1, t1⟩ := h1
  obtain ⟨x1, hr1, hb1⟩ := openT _ _ _ _ _ ok1 t1
  have e2 : v2 = GT.val (.slice gTally) v2.cells.toList := GT.val_of _ _ ok2 (hval 2 _ v2 rfl rfl)
  obtain ⟨n2, t2⟩ := h2
  obtain ⟨x2, hr2, hb2⟩ := openT _ _ _ _ _ ok2 t2
  have hk2 : Rows.uptoBulkAll ([d0, d1, d2] ++ []) ≤ 1048576 := of_decide_eq_true hk
  simp only [List.append_nil, Rows.uptoBulkAll] at hk2
  have hc := aggJoins_calls _ x0 _ x1 _ x2 W hr0 hr1 hr2 (by simp only at hb0 hb1 hb2; omega)
  rw [← e0, ← e1, ← e2] at hc
  refine hc.mono fun e W' ⟨he, hU⟩ => ?_
  subst he
  exact ⟨_, rfl, law_post laid_out hW' rfl rfl (by kernel_rfl) okP rfl rfl rfl hU.below rfl⟩
theorem lifted (os : Os) (started : os.Started) (H : Type) (enc : TypeId × Value → H) (F : Stop.Interp) :
    ReturnsInHanded {} Try.checked os 3 .any ((Rows.OpenSpec.upto Rows.aggJoinsSpec).pre6 enc Try.prog Try.f3 Rows.aggJoinsUptoRow.domain false) (((Rows.OpenSpec.upto Rows.aggJoinsSpec).at F).post enc Try.prog Try.f3 false true false false) := by
  refine returnsInHanded_of_cond (C := Try.checked) (s := Rows.OpenSpec.upto Rows.aggJoinsSpec) (k := Rows.uptoSmall) rfl own_knob started (by kernel_rfl) Try.func3
    (OpenSpec.witness (enc := enc) (C := Try.checked) (s := Rows.OpenSpec.upto Rows.aggJoinsSpec) (k := Rows.uptoSmall) rfl false ⟨#[], #[.slice none 0 0, .slice none 0 0, .slice none 0 0], []⟩ 8 (by kernel_rfl) (by kernel_rfl) (by kernel_rfl)
      (x := ([.nil, .nil, .nil], [], [])) (by kernel_rfl) rfl (by kernel_rfl)) ?_
  intro W base args ds gs before hval hW _ hk _
  exact contract H enc W args ds gs before base hval hW hk
theorem proved : Rows.AggJoinsUptoSaid :=
  OpenClaim.holds_of_cond 3 Try.f3 rfl rfl rfl rfl rfl rfl rfl ⟨rfl, rfl, rfl, rfl, rfl⟩ rfl rfl rfl rfl rfl (by kernel_rfl) Try.func3 (by kernel_rfl)
    (of_decide_eq_true (by kernel_rfl)) (by unfold Func.isWrapper; rw [if_neg (of_decide_eq_false (by kernel_rfl))]; exact ⟨rfl, rfl⟩)
    (fun os started H enc _ F => lifted os started H enc F)
#print axioms proved
end Go.Proofs.Ythbjpoiolmlpmaa.rowAggJoins
