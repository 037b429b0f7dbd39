/- slices.Clone at whole numbers and at strings: new memory that reads the same. -/
import Derived.Test.YthbjpoiolmlpmaaGreatDoorOwnRd
import Derived.Test.YthbjpoiolmlpmaaGreatDoorTally
import Derived.Test.YthbjpoiolmlpmaaGreatDoorProg
import Derived.WalkSpells
set_option linter.unusedVariables false
set_option linter.unusedSimpArgs false
namespace Go.Proofs.YthbjpoiolmlpmaaGreatDoor
open Go.RowKit
abbrev gIs : GT := .slice gI
abbrev gSs : GT := .slice .str

theorem infoI : (Tryz.prog.info? 2).map (fun i => (i.zero, i.size, i.bytes)) = some (some (.int .i64 0), 1, 8) := by kernel_rfl
theorem infoS : (Tryz.prog.info? 9).map (fun i => (i.zero, i.size, i.bytes)) = some (some (.string .empty), 1, 16) := by kernel_rfl

theorem own_empty (w : World) (base : Nat) (e : TypeId) (size : Nat) (hb : base ≤ w.heap.size) : (w.alloc (.cells #[] e)).ownsRow base e size (.slice (some ⟨w.heap.size, 0, none⟩) 0 0) 0 [] :=
  World.ownsRow_made w #[] 0 hb (Nat.zero_le _) (by simp)

/-- The cells of a slice of one-cell elements. -/
theorem rdI_news {w : World} {F : Nat → Prop} {A : Option Addr} {n c : Nat} {xs : List Int} (h : Rd w F gIs [.slice A n c] xs) :
    ∀ j u, (xs.map (Value.int .i64))[j]? = some u → ∃ b o, A = some ⟨b, o, none⟩ ∧ w.cell? ⟨b, o + j, none⟩ = some u := by
  obtain ⟨A', c', he, _, _, _, h4⟩ := h
  simp only [List.cons.injEq, and_true, Value.slice.injEq] at he
  obtain ⟨rfl, rfl, rfl⟩ := he
  intro j u hj
  rw [List.getElem?_map] at hj
  obtain ⟨x, hx, rfl⟩ := Option.map_eq_some_iff.1 hj
  obtain ⟨b, o, ecs, r1, _, _, r4, r5⟩ := h4 j x hx
  obtain ⟨rfl, _⟩ : ecs = [.int .i64 x] ∧ _ := r5
  exact ⟨b, o, r1, by simpa [GT.sz] using r4 0 _ rfl⟩
theorem rdS_news {w : World} {F : Nat → Prop} {A : Option Addr} {n c : Nat} {xs : List ByteArray} (h : Rd w F gSs [.slice A n c] xs) :
    ∀ j u, (xs.map Value.string)[j]? = some u → ∃ b o, A = some ⟨b, o, none⟩ ∧ w.cell? ⟨b, o + j, none⟩ = some u := by
  obtain ⟨A', c', he, _, _, _, h4⟩ := h
  simp only [List.cons.injEq, and_true, Value.slice.injEq] at he
  obtain ⟨rfl, rfl, rfl⟩ := he
  intro j u hj
  rw [List.getElem?_map] at hj
  obtain ⟨x, hx, rfl⟩ := Option.map_eq_some_iff.1 hj
  obtain ⟨b, o, ecs, r1, _, _, r4, r5⟩ := h4 j x hx
  obtain ⟨rfl, _⟩ : ecs = [.string x] ∧ _ := r5
  exact ⟨b, o, r1, by simpa [GT.sz] using r4 0 _ rfl⟩
theorem rdI_wf {w : World} {F : Nat → Prop} {A : Option Addr} {n c : Nat} {xs : List Int} (h : Rd w F gIs [.slice A n c] xs) : ∀ (i : Nat) (x : Int), xs[i]? = some x → (Lit.int .i64 x).wf = true := by
  obtain ⟨A', c', he, _, _, _, h4⟩ := h
  intro i x hx
  obtain ⟨_, _, _, _, _, _, _, r5⟩ := h4 i x hx
  exact r5.2
theorem rdS_wf {w : World} {F : Nat → Prop} {A : Option Addr} {n c : Nat} {xs : List ByteArray} (h : Rd w F gSs [.slice A n c] xs) : ∀ (i : Nat) (x : ByteArray), xs[i]? = some x → x.size ≤ maxLen := by
  obtain ⟨A', c', he, _, _, _, h4⟩ := h
  intro i x hx
  obtain ⟨_, _, _, _, _, _, _, r5⟩ := h4 i x hx
  exact r5.2
theorem flat1 {α : Type} (f : α → Value) (xs : List α) : (xs.map fun x => [f x]).flatten = xs.map f := by
  induction xs with
  | nil => rfl
  | cons x xs ih => simp [ih]
theorem own_rdI {w : World} {F : Nat → Prop} {base n : Nat} {e : TypeId} {v : Value} {xs : List Int} (h : w.ownsRow base e 1 v n (xs.map (Value.int .i64))) (hw : ∀ (i : Nat) (x : Int), xs[i]? = some x → (Lit.int .i64 x).wf = true) (hF : ∀ b, base ≤ b → F b) : Rd w F gIs [v] xs := by
  refine own_rd (g := gI) (css := xs.map fun x => [Value.int .i64 x]) (n := n) (e := e) ?_ (by decide) (by simp) (fun i c x hc hx => ?_) hF
  · rw [flat1]
    exact h
  · rw [List.getElem?_map, hx] at hc
    simp at hc
    exact ⟨hc.symm, hw i x hx⟩
theorem own_rdS {w : World} {F : Nat → Prop} {base n : Nat} {e : TypeId} {v : Value} {xs : List ByteArray} (h : w.ownsRow base e 1 v n (xs.map Value.string)) (hw : ∀ (i : Nat) (x : ByteArray), xs[i]? = some x → x.size ≤ maxLen) (hF : ∀ b, base ≤ b → F b) : Rd w F gSs [v] xs := by
  refine own_rd (g := .str) (css := xs.map fun x => [Value.string x]) (n := n) (e := e) ?_ (by decide) (by simp) (fun i c x hc hx => ?_) hF
  · rw [flat1]
    exact h
  · rw [List.getElem?_map, hx] at hc
    simp at hc
    exact ⟨hc.symm, hw i x hx⟩

set_option maxHeartbeats 400000 in
theorem cloneI_calls (A : Option Addr) (n c : Nat) (xs : List Int) (F : Nat → Prop) (w : World) (h : Rd w F gIs [.slice A n c] xs) (hn : n ≤ 1048576) :
    Calls Tryz.prog 45 #[.slice A n c] w fun e w' => ∃ A' c', e = .returned (.slice A' n c') ∧ Upd [] w w' ∧ Rd w' (fun b => w.heap.size ≤ b) gIs [.slice A' n c'] xs := by
  obtain ⟨hn', hnc, hcm, hA, _⟩ := rd_cells h
  have hnews := rdI_news h
  have hwf := Lib.hid (rdI_wf h)
  have HL := Lib.hid (show (xs.map (Value.int .i64)).length = n * 1 by simp [hn'])
  have HN := Lib.hid hn'
  clear hn'
  have hone : ∀ u ∈ xs.map (Value.int .i64), u.oneCell' = true := by
    intro u hu
    obtain ⟨_, _, rfl⟩ := List.mem_map.1 hu
    rfl
  have HNW := Lib.hid hnews
  have HO := Lib.hid hone
  have HA := Lib.hid hA
  clear h hnews hone hA
  have hq := fun (W : World) => Lib.run_eql_slice_nil (P := Tryz.prog) W 51 2 A n c 0 0 (by kernel_rfl)
  cases A with
  | none =>
    obtain rfl : c = 0 := HA.out rfl
    obtain rfl : n = 0 := by omega
    go_enter Tryz.func45, Tryz.ntmps45
    go_wp2
    go_ret
    exact ⟨none, 0, rfl, Upd.refl _ _, none, 0, by rw [← HN.out], by have := HN.out; omega, by simp only [maxLen]; omega, fun _ => rfl, fun i x hx => by
      have := (List.getElem?_eq_some_iff.1 hx).1
      have := HN.out
      omega⟩
  | some ad =>
    go_enter Tryz.func45, Tryz.ntmps45
    go_wp2_with (at_builtin; refine wp_appendN w.heap.size 51 2 (.int .i64 0) 1 8 _ 0 [] (some ad) n c (xs.map (Value.int .i64)) rfl rfl (by kernel_rfl) infoI rfl (by decide) (by decide) rfl rfl (by simp) (by omega) HL.out (fun j u hj => by obtain ⟨b, o, e, hc⟩ := HNW.out j u hj; exact ⟨b, o, e, ((Upd.refl [] w).alloc _).cell hc (by simp)⟩) HO.out (own_empty w _ _ 1 (Nat.le_refl _)) (by simp) (by omega) ?_)
    intro v1 w1 hown hU _
    obtain ⟨A', c', rfl, _⟩ := own_shape hown
    have HU := Lib.hid hU
    have HW := Lib.hid hown
    clear hU hown
    go_wp2
    go_ret
    refine ⟨A', c', rfl, ((Upd.refl [] w).alloc (.cells #[] 2)).trans HU.out (fun _ h => h) (fun i hi => .inr (by simp [Value.ownBlock] at hi; omega)), own_rdI HW.out hwf.out (fun _ h => h)⟩
set_option maxHeartbeats 400000 in
theorem cloneS_calls (A : Option Addr) (n c : Nat) (xs : List ByteArray) (F : Nat → Prop) (w : World) (h : Rd w F gSs [.slice A n c] xs) (hn : n ≤ 1048576) :
    Calls Tryz.prog 46 #[.slice A n c] w fun e w' => ∃ A' c', e = .returned (.slice A' n c') ∧ Upd [] w w' ∧ Rd w' (fun b => w.heap.size ≤ b) gSs [.slice A' n c'] xs := by
  obtain ⟨hn', hnc, hcm, hA, _⟩ := rd_cells h
  have hnews := rdS_news h
  have hwf := Lib.hid (rdS_wf h)
  have HL := Lib.hid (show (xs.map Value.string).length = n * 1 by simp [hn'])
  have HN := Lib.hid hn'
  clear hn'
  have hone : ∀ u ∈ xs.map Value.string, u.oneCell' = true := by
    intro u hu
    obtain ⟨_, _, rfl⟩ := List.mem_map.1 hu
    rfl
  have HNW := Lib.hid hnews
  have HO := Lib.hid hone
  have HA := Lib.hid hA
  clear h hnews hone hA
  have hq := fun (W : World) => Lib.run_eql_slice_nil (P := Tryz.prog) W 52 9 A n c 0 0 (by kernel_rfl)
  cases A with
  | none =>
    obtain rfl : c = 0 := HA.out rfl
    obtain rfl : n = 0 := by omega
    go_enter Tryz.func46, Tryz.ntmps46
    go_wp2
    go_ret
    exact ⟨none, 0, rfl, Upd.refl _ _, none, 0, by rw [← HN.out], by have := HN.out; omega, by simp only [maxLen]; omega, fun _ => rfl, fun i x hx => by
      have := (List.getElem?_eq_some_iff.1 hx).1
      have := HN.out
      omega⟩
  | some ad =>
    go_enter Tryz.func46, Tryz.ntmps46
    go_wp2_with (at_builtin; refine wp_appendN w.heap.size 52 9 (.string .empty) 1 16 _ 0 [] (some ad) n c (xs.map Value.string) rfl rfl (by kernel_rfl) infoS rfl (by decide) (by decide) rfl rfl (by simp) (by omega) HL.out (fun j u hj => by obtain ⟨b, o, e, hc⟩ := HNW.out j u hj; exact ⟨b, o, e, ((Upd.refl [] w).alloc _).cell hc (by simp)⟩) HO.out (own_empty w _ _ 1 (Nat.le_refl _)) (by simp) (by omega) ?_)
    intro v1 w1 hown hU _
    obtain ⟨A', c', rfl, _⟩ := own_shape hown
    have HU := Lib.hid hU
    have HW := Lib.hid hown
    clear hU hown
    go_wp2
    go_ret
    refine ⟨A', c', rfl, ((Upd.refl [] w).alloc (.cells #[] 9)).trans HU.out (fun _ h => h) (fun i hi => .inr (by simp [Value.ownBlock] at hi; omega)), own_rdS HW.out hwf.out (fun _ h => h)⟩
end Go.Proofs.YthbjpoiolmlpmaaGreatDoor
