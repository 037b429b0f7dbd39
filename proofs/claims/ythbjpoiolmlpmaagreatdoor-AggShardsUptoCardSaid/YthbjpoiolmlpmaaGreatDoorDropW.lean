/- A shard with a window less. -/
import Derived.Test.YthbjpoiolmlpmaaGreatDoorGau
set_option linter.unusedVariables false
set_option linter.unusedSimpArgs false
namespace Go.Proofs.YthbjpoiolmlpmaaGreatDoor
open Go.RowKit
def Tag.win? : Tag → Option Int
  | .win i => some i
  | .tak i _ _ => some i
  | .aux i _ _ => some i
  | _ => none
/-- What the shard owns without the window i. -/
def lessW (own : Nat → Tag) (i : Int) : Nat → Tag := fun b => if (own b).win? = some i then .no else own b
theorem AggAt.dropW {S : List Nat} {w w' : World} {base a : Nat} {own : Nat → Tag} {b0 b1 : Nat} {l1 l2 : List WR} {r : WR} {gs gs' : List (ByteArray × Int)} {bd : Int} (h : AggAt w base a own ⟨b0, b1, l1 ++ r :: l2, gs, bd⟩)
    (hop : MapAt w' (Value.int .i64) b0 ((l1 ++ l2).map wE)) (hga : MapAt w' Value.string b1 (gs'.map fun g => (g.1, wide g.2))) (hU : Upd S w w')
    (hS : ∀ b ∈ S, own b = .no ∨ own b = .op ∨ own b = .ga ∨ (own b).win? = some r.id) :
    AggAt w' base a (lessW own r.id) ⟨b0, b1, l1 ++ l2, gs', bd⟩ := by
  have hr0 : r ∈ l1 ++ r :: l2 := by simp
  have hids := h.op.nodup
  rw [opn_ids] at hids
  have hne := split_ne WR.id hids
  have hmem : ∀ y, y ∈ l1 ++ l2 → y ∈ l1 ++ r :: l2 ∧ y.id ≠ r.id := fun y hy => by
    rcases List.mem_append.1 hy with hy | hy
    · exact ⟨List.mem_append_left _ hy, hne y (.inl hy)⟩
    · exact ⟨List.mem_append_right _ (List.mem_cons_of_mem _ hy), hne y (.inr hy)⟩
  have hk : ∀ b, (own b).win? ≠ some r.id → lessW own r.id b = own b := fun b hb => if_neg hb
  have hn : ∀ b, own b ≠ .no → own b ≠ .op → own b ≠ .ga → (own b).win? ≠ some r.id → b ∉ S := fun b h1 h2 h3 h4 hm => by
    rcases hS b hm with g | g | g | g
    · exact h1 g
    · exact h2 g
    · exact h3 g
    · exact h4 g
  have hoa := h.oa
  have ho0 : own b0 = .op := h.o0
  have ho1 : own b1 = .ga := h.o1
  refine ⟨h.hb.upd hU (hn _ (by rw [hoa]; simp) (by rw [hoa]; simp) (by rw [hoa]; simp) (by rw [hoa]; simp [Tag.win?])), hop, hga, fun y hy => ?_, fun y hy s hs => ?_, ?_, ?_, ?_, fun y hy => ?_, fun y hy s hs => ?_, fun b hb => ?_⟩
  · obtain ⟨g1, g2⟩ := hmem y hy
    have e := h.ow y g1
    exact (h.wi y g1).upd hU (hn _ (by rw [e]; simp) (by rw [e]; simp) (by rw [e]; simp) (by rw [e]; simpa [Tag.win?] using g2))
  · obtain ⟨g1, g2⟩ := hmem y hy
    obtain ⟨e1, e2⟩ := h.ot y g1 s hs
    exact ⟨(h.tk y g1 s hs).1.upd hU (hn _ (by rw [e1]; simp) (by rw [e1]; simp) (by rw [e1]; simp) (by rw [e1]; simpa [Tag.win?] using g2)) (fun b hb => hn _ (by rw [e2 b hb]; simp) (by rw [e2 b hb]; simp) (by rw [e2 b hb]; simp) (by rw [e2 b hb]; simpa [Tag.win?] using g2)), (h.tk y g1 s hs).2⟩
  · rw [hk _ (by rw [hoa]; simp [Tag.win?])]; exact hoa
  · show lessW own r.id b0 = _
    rw [hk _ (by rw [ho0]; simp [Tag.win?])]; exact ho0
  · show lessW own r.id b1 = _
    rw [hk _ (by rw [ho1]; simp [Tag.win?])]; exact ho1
  · obtain ⟨g1, g2⟩ := hmem y hy
    have e := h.ow y g1
    rw [hk _ (by rw [e]; simpa [Tag.win?] using g2)]; exact e
  · obtain ⟨g1, g2⟩ := hmem y hy
    obtain ⟨e1, e2⟩ := h.ot y g1 s hs
    refine ⟨?_, fun b hb => ?_⟩
    · rw [hk _ (by rw [e1]; simpa [Tag.win?] using g2)]; exact e1
    · rw [hk _ (by rw [e2 b hb]; simpa [Tag.win?] using g2)]; exact e2 b hb
  · have h1 := h.lo b (fun e => hb (by unfold lessW; rw [e]; simp))
    have := hU.size
    omega
/-- The bound moves. -/
theorem AggAt.setB {w : World} {base a : Nat} {own : Nat → Tag} {A : AgL} (h : AggAt w base a own A) (bd : Int) : AggAt (w.setCell ⟨a, 2, none⟩ (.int .i64 bd)) base a own { A with bound := bd } := by
  have hU := (Upd.refl [a] w).setCell (p := ⟨a, 2, none⟩) (.inl (by simp)) (.int .i64 bd)
  have hn : ∀ b, own b ≠ .ag → b ∉ [a] := fun b hb hm => by
    simp at hm
    subst hm
    exact hb h.oa
  refine ⟨h.hb.set 2 _, h.op.upd hU (hn _ (by rw [h.o0]; simp)), h.ga.upd hU (hn _ (by rw [h.o1]; simp)), fun r hr => (h.wi r hr).upd hU (hn _ (by rw [h.ow r hr]; simp)), fun r hr t ht => ?_, h.oa, h.o0, h.o1, h.ow, h.ot, fun b hb => ?_⟩
  · obtain ⟨e1, e2⟩ := h.ot r hr t ht
    exact ⟨(h.tk r hr t ht).1.upd hU (hn _ (by rw [e1]; simp)) (fun b hb => hn _ (by rw [e2 b hb]; simp)), (h.tk r hr t ht).2⟩
  · have h1 := h.lo b hb
    have := hU.size
    omega
end Go.Proofs.YthbjpoiolmlpmaaGreatDoor
