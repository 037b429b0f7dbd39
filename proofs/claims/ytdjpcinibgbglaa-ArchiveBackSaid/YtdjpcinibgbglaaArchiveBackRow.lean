/-
  Proved: ArchiveBack, the row: out of the contract of its call (archiveBack_calls).
-/
import Derived.Test.YtdjpcinibgbglaaLawBack
import Derived.Test.YtdjpcinibgbglaaLift
namespace Go.Proofs.Ytdjpcinibgbglaa.rowArchiveBack
open Go.RowKit Go.ChangeShapes Go.WideShapes Go.ChangeAt
set_option linter.unusedVariables false
set_option maxRecDepth 100000
theorem okP : Try.f11.params.toList.all (fun t => Try.prog.readableRec t && decide (t < Try.prog.types.size)) = true := by kernel_rfl
theorem ok0 : GT.okT Try.prog (.slice gSpec) 22 = true := by kernel_rfl
theorem ok1 : GT.okT Try.prog gI 30 = true := by kernel_rfl
theorem ok2 : GT.okT Try.prog gI 2 = true := by kernel_rfl
theorem ok3 : GT.okT Try.prog (.slice gOp) 31 = true := by kernel_rfl
theorem ok4 : GT.okT Try.prog gOp 73 = true := by kernel_rfl
theorem contract (H : Type) (enc : TypeId × Value → H) (W : World) (args : Array Value) (ds gs : List (DataW H)) (before : List MemPlace)
    (base : Nat) (hval : ∀ (j : Nat) t v, Try.f11.params[j]? = some t → args[j]? = some v → Value.okWide Try.prog W .any base t v) (hW : DataW.Whole enc Try.prog Try.f11.params.toList Rows.archiveBackSpec.vars false W args.toList ds gs before) :
    Calls Try.prog 11 args W fun e W' => ∃ v, e = .returned v ∧ Rows.archiveBackSpec.post enc Try.prog Try.f11 false true false false W args v W' := by
  have hW' := hW
  obtain ⟨p, q, hA0, hV, rfl, hfz, hnd⟩ := hW
  have hA : DataW.TrodAll enc Try.prog W 0 (fun _ => true) true Try.f11.params.toList args.toList ds p := hA0
  rw [Try.params11] at hA
  obtain ⟨rfl, rfl⟩ := trodVars_none hV
  obtain ⟨v0, vs0, d0, ds0, p0, q0, hargs, rfl, rfl, h0, r0⟩ := trodAll_cons hA
  obtain ⟨v1, vs1, d1, ds1, p1, q1, rfl, rfl, rfl, h1, r1⟩ := trodAll_cons r0
  obtain ⟨v2, vs2, d2, ds2, p2, q2, rfl, rfl, rfl, h2, r2⟩ := trodAll_cons r1
  obtain ⟨v3, vs3, d3, ds3, p3, q3, rfl, rfl, rfl, h3, r3⟩ := trodAll_cons r2
  obtain ⟨v4, vs4, d4, ds4, p4, q4, rfl, rfl, rfl, h4, r4⟩ := trodAll_cons r3
  obtain ⟨rfl, rfl, rfl⟩ := trodAll_nil r4
  obtain rfl : args = #[v0, v1, v2, v3, v4] := by cases args; simp_all
  have e0 : v0 = GT.val (.slice gSpec) v0.cells.toList := GT.val_of _ _ ok0 (hval 0 _ v0 rfl rfl)
  obtain ⟨n0, t0⟩ := h0
  obtain ⟨x0, hr0, hb0⟩ := openT _ _ _ _ _ ok0 t0
  have e1 : v1 = GT.val gI v1.cells.toList := GT.val_of _ _ ok1 (hval 1 _ v1 rfl rfl)
  obtain ⟨n1, t1⟩ := h1
  obtain ⟨x1, hr1, hb1⟩ := openT _ _ _ _ _ ok1 t1
  have e2 : v2 = GT.val gI v2.cells.toList := GT.val_of _ _ ok2 (hval 2 _ v2 rfl rfl)
  obtain ⟨n2, t2⟩ := h2
  obtain ⟨x2, hr2, hb2⟩ := openT _ _ _ _ _ ok2 t2
  have e3 : v3 = GT.val (.slice gOp) v3.cells.toList := GT.val_of _ _ ok3 (hval 3 _ v3 rfl rfl)
  obtain ⟨n3, t3⟩ := h3
  obtain ⟨x3, hr3, hb3⟩ := openT _ _ _ _ _ ok3 t3
  have e4 : v4 = GT.val gOp v4.cells.toList := GT.val_of _ _ ok4 (hval 4 _ v4 rfl rfl)
  obtain ⟨n4, t4⟩ := h4
  obtain ⟨x4, hr4, hb4⟩ := openT _ _ _ _ _ ok4 t4
  have hc := archiveBack_calls _ x0 _ x1 _ x2 _ x3 _ x4 W hr0 hr1 hr2 hr3 hr4
  rw [← e0, ← e1, ← e2, ← e3, ← e4] at hc
  refine hc.mono fun e W' ⟨he, hU⟩ => ?_
  subst he
  exact ⟨_, rfl, law_post laid_out hW' rfl rfl (by kernel_rfl) okP rfl rfl rfl hU.below rfl⟩
theorem lifted (os : Os) (started : os.Started) (H : Type) (enc : TypeId × Value → H) :
    ReturnsInHanded {} Try.checked os 11 .any (Rows.archiveBackSpec.pre6 enc Try.prog Try.f11 Rows.archiveBackRow.domain false) (Rows.archiveBackSpec.post enc Try.prog Try.f11 false true false false) := by
  refine returnsInHanded_of_change (C := Try.checked) own_knob started (by kernel_rfl) Try.func11
    (ChangeSpec.witness6 (enc := enc) (C := Try.checked) false ⟨#[], #[.slice none 0 0, .int .i64 0, .int .i64 0, .slice none 0 0, .agg #[.int .i64 0, .int .i64 0, .int .i64 0, .int .u64 0, .int .i64 0, .int .i64 0, .int .i64 0, .int .i64 0]], []⟩ 8 (by kernel_rfl) (by kernel_rfl) (by kernel_rfl) (by kernel_rfl)) ?_
  intro W base args ds gs before hval hW _ _
  exact contract H enc W args ds gs before base hval hW
theorem proved : Rows.ArchiveBackSaid :=
  OpenClaim.holds_of_wide 11 Try.f11 rfl rfl rfl rfl rfl rfl rfl ⟨rfl, rfl, rfl, rfl, rfl⟩ rfl rfl rfl rfl rfl (by kernel_rfl) Try.func11 (by kernel_rfl)
    (of_decide_eq_true (by kernel_rfl)) (by unfold Func.isWrapper; rw [if_neg (of_decide_eq_false (by kernel_rfl))]; exact ⟨rfl, rfl⟩)
    (fun os started H enc _ => lifted os started H enc)
#print axioms proved
end Go.Proofs.Ytdjpcinibgbglaa.rowArchiveBack
