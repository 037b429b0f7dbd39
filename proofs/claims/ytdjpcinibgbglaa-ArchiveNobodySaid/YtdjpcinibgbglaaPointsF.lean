/- (*File).Points. -/
import Derived.Test.YtdjpcinibgbglaaPoints
set_option linter.unusedVariables false
set_option linter.unusedSimpArgs false
namespace Go.Proofs.Ytdjpcinibgbglaa
open Go.RowKit Go.Sort
set_option maxHeartbeats 1000000 in
theorem pointsF_in (base fb : Nat) (f : Fl) (v : Value) (Ls : List Loc) (k : Nat) (b : Band) (w : World) (hf : FileAt w base fb f v Ls) (hok : f.ok) (hk : f.bands[k]? = some b) :
    Calls Try.prog 17 #[.pointer (some ⟨fb, 0, none⟩), .int .i64 k] w fun e w' => ∃ (v' : Value) (l' : List Pt), e = .returned v' ∧ l'.Perm (b.pl.filterMap id) ∧ l'.Pairwise (fun a c => a.t ≤ c.t) ∧ w'.ownsRow w.heap.size 49 3 v' l'.length (l'.flatMap ptR) ∧ Upd [] w w' := by
  obtain ⟨A, c, rfl, hc1, hc2, hc3⟩ := hf.row.shape
  have hkl := (List.getElem?_eq_some_iff.1 hk).1
  have hlen := hf.len
  obtain ⟨L, hL⟩ : ∃ L, Ls[k]? = some L := ⟨_, List.getElem?_eq_getElem (by omega)⟩
  obtain ⟨g, o, rfl, _, hcell⟩ := hf.row.at_ hL
  have HM := Lib.hid (made_calls base fb f _ Ls w hf hok.ne)
  have HP := Lib.hid (fun W (hW : Upd [] w W) => points_calls L b W ((hf.band k L b hL hk).upd0 hW) (hok.bands b (List.mem_of_getElem? hk)))
  have HF := Lib.hid hf
  have c0 : w.cell? ⟨g, o + k, none⟩ = some (pB L.b) := by simpa using hcell 0 _ rfl
  have C0 := Lib.hid c0
  have e1 : decide ((k : Int) < 0) = false := decide_eq_false (by omega)
  have e2 : decide ((Ls.length : Int) ≤ (k : Int)) = false := decide_eq_false (by omega)
  have hkI : (k : Int) < (Ls.length : Int) := by omega
  clear hf hL hcell hc1 hc2 hc3 hk c0
  go_enter Try.func17, Try.ntmps17
  go_wp2_with fail
  refine HM.out.mono ?_
  rintro e w1 ⟨rfl, hU1⟩
  have HU1 := Lib.hid hU1
  have y2 := (HF.out.upd0 hU1).hf.cell (j := 2) rfl
  have c1 := hU1.cell C0.out (by simp)
  clear hU1
  go_wp2_with fail
  refine (HP.out _ HU1.out).mono ?_
  rintro e w2 ⟨v', l', rfl, hp, hs, ho, hU2⟩
  have HR := Lib.hid (⟨hp, hs, own_base_mono ho HU1.out.size, HU1.out.then hU2⟩ : l'.Perm (b.pl.filterMap id) ∧ l'.Pairwise (fun a c => a.t ≤ c.t) ∧ _ ∧ Upd [] w w2)
  clear hp hs ho hU2
  go_wp2
  go_ret
  exact ⟨_, l', rfl, HR.out⟩
set_option maxHeartbeats 1000000 in
theorem pointsF_out (base fb : Nat) (f : Fl) (v : Value) (Ls : List Loc) (i : Int) (w : World) (hf : FileAt w base fb f v Ls) (hok : f.ok) (hi : i < 0 ∨ (f.bands.length : Int) ≤ i) :
    Calls Try.prog 17 #[.pointer (some ⟨fb, 0, none⟩), .int .i64 i] w fun e w' => e = .returned (.slice none 0 0) ∧ Upd [] w w' := by
  obtain ⟨A, c, rfl, hc1, hc2, hc3⟩ := hf.row.shape
  rw [← hf.len] at hi
  have HM := Lib.hid (made_calls base fb f _ Ls w hf hok.ne)
  have HF := Lib.hid hf
  clear hf hc1 hc2 hc3
  by_cases h0 : i < 0
  · have e1 : decide (i < 0) = true := decide_eq_true h0
    go_enter Try.func17, Try.ntmps17
    go_wp2_with fail
    refine HM.out.mono ?_
    rintro e w1 ⟨rfl, hU1⟩
    go_wp2
    go_ret
    exact ⟨rfl, hU1⟩
  · have e1 : decide (i < 0) = false := decide_eq_false h0
    have e2 : decide ((Ls.length : Int) ≤ i) = true := decide_eq_true (by omega)
    go_enter Try.func17, Try.ntmps17
    go_wp2_with fail
    refine HM.out.mono ?_
    rintro e w1 ⟨rfl, hU1⟩
    have y2 := (HF.out.upd0 hU1).hf.cell (j := 2) rfl
    go_wp2
    go_ret
    exact ⟨rfl, hU1⟩
theorem pointsF_nil (i : Int) (w : World) : Calls Try.prog 17 #[.pointer none, .int .i64 i] w fun e w' => e = .returned (.slice none 0 0) ∧ Upd [] w w' := by
  go_enter Try.func17, Try.ntmps17
  go_wp2_with fail
  refine (made_nil w).mono ?_
  rintro e w1 ⟨rfl, hU1⟩
  go_wp2
  go_ret
  exact ⟨rfl, hU1⟩
end Go.Proofs.Ytdjpcinibgbglaa
