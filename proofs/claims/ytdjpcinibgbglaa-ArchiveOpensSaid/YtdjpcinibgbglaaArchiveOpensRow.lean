/-
  Proved: ArchiveOpens, the row: out of the contract of its call (archiveOpens_calls).
-/
import Derived.Test.YtdjpcinibgbglaaLawOpens
import Derived.Test.YtdjpcinibgbglaaLift
namespace Go.Proofs.Ytdjpcinibgbglaa.rowArchiveOpens
open Go.RowKit Go.ChangeShapes Go.WideShapes Go.ChangeAt
set_option linter.unusedVariables false
set_option maxRecDepth 100000
theorem okP : Try.f9.params.toList.all (fun t => Try.prog.readableRec t && decide (t < Try.prog.types.size)) = true := by kernel_rfl
theorem ok0 : GT.okT Try.prog (.slice (.int .u8)) 62 = true := by kernel_rfl
theorem contract (H : Type) (enc : TypeId × Value → H) (W : World) (args : Array Value) (ds gs : List (DataW H)) (before : List MemPlace)
    (base : Nat) (hval : ∀ (j : Nat) t v, Try.f9.params[j]? = some t → args[j]? = some v → Value.okWide Try.prog W .any base t v) (hW : DataW.Whole enc Try.prog Try.f9.params.toList Rows.archiveOpensSpec.vars false W args.toList ds gs before)
    (hsz0 : (DataW.weightsEach Try.prog (Try.f9.params.toList ++ Rows.archiveOpensSpec.plain.varTypes Try.prog) (ds ++ gs)).all (· ≤ reachBytes) = true) :
    Calls Try.prog 9 args W fun e W' => ∃ v, e = .returned v ∧ Rows.archiveOpensSpec.post enc Try.prog Try.f9 false true false false W args v W' := by
  have hW' := hW
  obtain ⟨p, q, hA0, hV, rfl, hfz, hnd⟩ := hW
  have hA : DataW.TrodAll enc Try.prog W 0 (fun _ => true) true Try.f9.params.toList args.toList ds p := hA0
  rw [Try.params9] at hA
  obtain ⟨rfl, rfl⟩ := trodVars_none hV
  obtain ⟨v0, vs0, d0, ds0, p0, q0, hargs, rfl, rfl, h0, r0⟩ := trodAll_cons hA
  obtain ⟨rfl, rfl, rfl⟩ := trodAll_nil r0
  obtain rfl : args = #[v0] := by cases args; simp_all
  have e0 : v0 = GT.val (.slice (.int .u8)) v0.cells.toList := GT.val_of _ _ ok0 (hval 0 _ v0 rfl rfl)
  obtain ⟨n0, t0⟩ := h0
  obtain ⟨x0, hr0, hb0⟩ := openT _ _ _ _ _ ok0 t0
  have hsz : (DataW.weightsEach Try.prog (Try.f9.params.toList ++ Rows.archiveOpensSpec.plain.varTypes Try.prog) ([d0] ++ [])).all (· ≤ reachBytes) = true := hsz0
  have hg0 : x0.length * 1 ≤ 140737488355328 := by
    obtain ⟨AG, cG, eG, _⟩ := hr0
    rcases DataW.trod_slice (show Try.prog.underlying 62 = some (.slice 5) by kernel_rfl) t0 with ⟨e1, _⟩ | ⟨ad, len, cap, elems, rest, n, _, e1, e2, _, _, _, e3, _⟩
    · rw [eG] at e1
      simp at e1
      omega
    · rw [eG] at e1
      simp at e1
      injection e2 with e2 _
      have hsz := hsz
      rw [Try.params9] at hsz
      have h := sized_slice hsz (j := 0) (t := 62) (e := 5) rfl (show some d0 = some (DataW.slice (elems.map (·.1)) (rest.map (·.1))) from congrArg some e2) (by kernel_rfl)
      rw [show Try.prog.bytesOf 5 = 1 by kernel_rfl, List.length_map, List.length_map] at h
      simp only [reachBytes] at h
      have := e1.2.1
      omega
  have hc := archiveOpens_calls _ x0 W hr0 hg0
  rw [← e0] at hc
  refine hc.mono fun e W' ⟨he, hU⟩ => ?_
  subst he
  exact ⟨_, rfl, law_post laid_out hW' rfl rfl (by kernel_rfl) okP rfl rfl rfl hU.below rfl⟩
theorem lifted (os : Os) (started : os.Started) (H : Type) (enc : TypeId × Value → H) :
    ReturnsInHanded {} Try.checked os 9 .any (Rows.archiveOpensSpec.pre6 enc Try.prog Try.f9 Rows.archiveOpensRow.domain false) (Rows.archiveOpensSpec.post enc Try.prog Try.f9 false true false false) := by
  refine returnsInHanded_of_change_sized (C := Try.checked) own_knob started (by kernel_rfl) Try.func9
    (ChangeSpec.witness6 (enc := enc) (C := Try.checked) false ⟨#[], #[.slice none 0 0], []⟩ 8 (by kernel_rfl) (by kernel_rfl) (by kernel_rfl) (by kernel_rfl)) ?_
  intro W base args ds gs before hval hW _ hsz _
  exact contract H enc W args ds gs before base hval hW hsz
theorem proved : Rows.ArchiveOpensSaid :=
  OpenClaim.holds_of_wide 9 Try.f9 rfl rfl rfl rfl rfl rfl rfl ⟨rfl, rfl, rfl, rfl, rfl⟩ rfl rfl rfl rfl rfl (by kernel_rfl) Try.func9 (by kernel_rfl)
    (of_decide_eq_true (by kernel_rfl)) (by unfold Func.isWrapper; rw [if_neg (of_decide_eq_false (by kernel_rfl))]; exact ⟨rfl, rfl⟩)
    (fun os started H enc _ => lifted os started H enc)
#print axioms proved
end Go.Proofs.Ytdjpcinibgbglaa.rowArchiveOpens
