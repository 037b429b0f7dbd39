/- A drawn region: the class of worlds may grow less on the way. -/
import Derived.Test.YthbjpoiolmlpmaaGreatDoorKern
set_option linter.unusedVariables false
set_option linter.unusedSimpArgs false
namespace Go.Proofs.YthbjpoiolmlpmaaGreatDoor
open Go.RowKit
theorem wpAnyC_mono {P : Program} {ops : Array Oper} {Q : Exit → Act → World → Prop} {C C' : World → Prop} {z : Nat} (hC : ∀ w, C' w → C w) : ∀ (n : Nat) (listed : Array Bool) (a : Act) (w : World), wpAnyC P ops C' z Q n listed a w → wpAnyC P ops C z Q n listed a w
  | 0, _, _, _, h => h
  | n + 1, _, _, _, h => ⟨h.1, fun i hi => ⟨fun hz => wpOp_mono (fun a' w' hh => wpAnyC_mono hC n _ a' w' hh) ((h.2 i hi).1 hz), fun hz => wpOp_mono (fun a' w' hh => ⟨hC _ hh.1, wpAnyC_mono hC n _ a' w' hh.2⟩) ((h.2 i hi).2 hz)⟩⟩
theorem mix_sub {P : Program} {ops : Array Oper} {Q : Exit → Act → World → Prop} {C : World → Prop} {z n : Nat} {listed : Array Bool} {a : Act} {w : World} (C' : World → Prop) (hC : ∀ w, C' w → C w) (h : MixAt P ops C' z Q n listed a w) : MixAt P ops C z Q n listed a w := fun hcl => wpAnyC_mono hC _ _ _ _ (h hcl)
/-- From the class of the worlds behind w to that of those behind a later one. -/
theorem wd_sub {S T : List Nat} {w w1 : World} (hU : Upd S w w1) (hT : ∀ i, i ∈ T → i ∈ S ∨ w.heap.size ≤ i) : ∀ w', (∃ p : Wd T w1, w' = p.v) → ∃ p : Wd S w, w' = p.v := by
  rintro _ ⟨p, rfl⟩
  exact ⟨⟨p.v, hU.trans p.h (fun _ h => h) hT⟩, rfl⟩
end Go.Proofs.YthbjpoiolmlpmaaGreatDoor
