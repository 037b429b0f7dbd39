/- (*band).put. -/
import Derived.Test.YtdjpcinibgbglaaFile
import Derived.Deep.RegionWith
set_option linter.unusedVariables false
set_option linter.unusedSimpArgs false
namespace Go.Proofs.Ytdjpcinibgbglaa
open Go.RowKit
abbrev ptV (p : Pt) : Value := .agg #[.int .i64 p.t, .int .i64 (wh p.v), .int .u64 (wl p.v)]
theorem fm_set3 : ∀ (xs : List (Option Pt)) (k : Nat) (y : Option Pt) (c0 c1 c2 : Value), k < xs.length → ptC y = [c0, c1, c2] →
    (((xs.flatMap ptC).set (k * 3) c0).set (k * 3 + 1) c1).set (k * 3 + 2) c2 = (xs.set k y).flatMap ptC
  | [], k, y, c0, c1, c2, hk, hy => by simp at hk
  | x :: xs, 0, y, c0, c1, c2, hk, hy => by
    obtain ⟨d0, d1, d2, hd⟩ : ∃ d0 d1 d2, ptC x = [d0, d1, d2] := by cases x <;> exact ⟨_, _, _, rfl⟩
    simp [List.flatMap_cons, hd, hy]
  | x :: xs, k + 1, y, c0, c1, c2, hk, hy => by
    obtain ⟨d0, d1, d2, hd⟩ : ∃ d0 d1 d2, ptC x = [d0, d1, d2] := by cases x <;> exact ⟨_, _, _, rfl⟩
    have ih := fm_set3 xs k y c0 c1 c2 (by simpa using hk) hy
    rw [List.flatMap_cons, List.set_cons_succ, List.flatMap_cons, hd, ← ih, show (k + 1) * 3 = k * 3 + 3 by omega, show k * 3 + 3 + 1 = k * 3 + 1 + 3 by omega, show k * 3 + 3 + 2 = k * 3 + 2 + 3 by omega]
    rfl
theorem fm_set1 : ∀ (xs : List (Option Pt)) (k : Nat) (y : Option Pt), (xs.flatMap flC).set k (.bool y.isSome) = (xs.set k y).flatMap flC
  | [], k, y => by simp
  | x :: xs, 0, y => by simp [List.flatMap_cons, flC]
  | x :: xs, k + 1, y => by
    have ih := fm_set1 xs k y
    rw [List.flatMap_cons, List.set_cons_succ, List.flatMap_cons, ← ih]
    rfl
set_option maxHeartbeats 1000000 in
theorem cput_calls (L : Loc) (b : Band) (k : Nat) (p : Pt) (w : World) (hB : BandAt w L b) (hk : k < b.n) (hn : b.n ≤ 4096) (hli : L.l ≠ L.i) :
    Calls Try.prog 75 #[.pointer (some ⟨L.b, 2, none⟩), .int .i64 k, ptV p] w fun e w' => e = .returned (.tuple #[]) ∧ Upd [L.l, L.i] w w' ∧ BandAt w' L { b with pl := b.pl.set k (some p) } := by
  obtain ⟨x, hx⟩ : ∃ x, b.pl[k]? = some x := ⟨_, List.getElem?_eq_getElem hk⟩
  obtain ⟨c0, c1, c2, hc⟩ : ∃ c0 c1 c2, ptC x = [c0, c1, c2] := by cases x <;> exact ⟨_, _, _, rfl⟩
  obtain ⟨t, v⟩ := p
  have hlb := hB.hb.ne hB.hl (by decide)
  have hib := hB.hb.ne hB.hi (by decide)
  have l1 := hB.hb.lt
  have l2 := hB.hl.lt
  have l3 := hB.hi.lt
  unfold ptV
  dsimp only
  obtain ⟨W0, hW0⟩ : ∃ W0, W0 = w.alloc (.cells #[.int .i64 t, .int .i64 (wh v), .int .u64 (wl v)] 49) := ⟨_, rfl⟩
  have hU0 := Lib.hid (show Upd [] w W0 by rw [hW0]; exact (Upd.refl _ _).alloc _)
  have hB0 := hB.upd0 hU0.out
  have hp0 : HB W0 w.heap.size 49 [.int .i64 t, .int .i64 (wh v), .int .u64 (wl v)] := by rw [hW0]; exact HB.new w _ [.int .i64 t, .int .i64 (wh v), .int .u64 (wl v)]
  have a0 := hB0.hb.cell (j := 2) rfl
  have a1 := hB0.hb.cell (j := 3) rfl
  have p0 := hp0.cell (j := 0) rfl
  have p1 := hp0.cell (j := 1) rfl
  have p2 := hp0.cell (j := 2) rfl
  have q0 : W0.cell? ⟨L.l, k * 3, none⟩ = some c0 := hB0.pt (j := 0) hx (by rw [hc]; rfl)
  have q1 : W0.cell? ⟨L.l, k * 3 + 1, none⟩ = some c1 := hB0.pt (j := 1) hx (by rw [hc]; rfl)
  have q2 : W0.cell? ⟨L.l, k * 3 + 2, none⟩ = some c2 := hB0.pt (j := 2) hx (by rw [hc]; rfl)
  have f0 := hB0.hl.free (k * 3)
  have f1 := hB0.hl.free (k * 3 + 1)
  have f2 := hB0.hl.free (k * 3 + 2)
  have r0 := hB0.fl hx
  have rf0 := hB0.hi.free k
  have HBN := Lib.hid hB0.hb
  have HLN := Lib.hid hB0.hl
  have HIN := Lib.hid hB0.hi
  have e1 : ¬ (L.l = w.heap.size) := by omega
  have e2 : ¬ (L.i = w.heap.size) := by omega
  have e3 : ¬ (L.b = w.heap.size) := by omega
  have e4 : ¬ (w.heap.size = L.l) := by omega
  have e5 : ¬ (w.heap.size = L.i) := by omega
  have e6 : ¬ (L.b = L.l) := hlb
  have e7 : ¬ (L.b = L.i) := hib
  have e8 : ¬ (L.l = L.b) := fun e => hlb e.symm
  have e9 : ¬ (L.i = L.b) := fun e => hib e.symm
  have e10 : ¬ (L.l = L.i) := hli
  have e11 : ¬ (L.i = L.l) := fun e => hli e.symm
  have hkI : (k : Int) < (b.n : Int) := by omega
  clear hB hB0 hp0 l1 l2 l3 hlb hib hli hx hc
  go_enter Try.func75, Try.ntmps75
  go_wp2
  rw [← hW0]
  clear hW0
  go_region
  go_wp2
  refine bodyPost_end (v := .tuple #[]) ?_ rfl ⟨rfl, ?_, ?_, ?_, ?_⟩
  · simp [results, Try.f75, go_sem]
  · refine Upd.drew (Upd.setCell (Upd.setCell (Upd.setCell (Upd.setCell hU0.out.of0 ?_ _) ?_ _) ?_ _) ?_ _) <;> exact .inl (by simp)
  · have eC : bandC { b with pl := b.pl.set k (some ⟨t, v⟩) } L.l L.i = bandC b L.l L.i := by simp [bandC, Band.n]
    rw [eC]
    repeat (first | with_reducible exact HBN.out | with_reducible refine HB.drew ?_ | (with_reducible refine HB.setNe ?_ ?h _; case h => (dsimp only; assumption)))
  · have e := fm_set3 b.pl k (some ⟨t, v⟩) _ _ _ hk rfl
    dsimp only
    rw [← e]
    exact HB.drew (HB.setNe (HB.set (HB.set (HB.set HLN.out (k * 3) _) (k * 3 + 1) _) (k * 3 + 2) _) (by dsimp only; assumption) _)
  · have e := fm_set1 b.pl k (some ⟨t, v⟩)
    dsimp only
    rw [← e]
    refine HB.drew (HB.set ?_ k _)
    repeat (first | with_reducible exact HIN.out | (with_reducible refine HB.setNe ?_ ?h _; case h => (dsimp only; assumption)))
theorem bput_calls (L : Loc) (b : Band) (t v : Int) (w : World) (hB : BandAt w L b) (hs : 1 ≤ b.step) (hn : 1 ≤ b.n) (hn2 : b.n ≤ 4096) (ht : T62 t) (hli : L.l ≠ L.i) :
    Calls Try.prog 45 #[pB L.b, .int .i64 t, wide v] w fun e w' => e = .returned (.tuple #[]) ∧ Upd [L.l, L.i] w w' ∧ BandAt w' L (b.put t v) := by
  go_enter Try.func45, Try.ntmps45
  go_wp2_with fail
  have hU0 := (Upd.refl [] w).alloc (.cells #[.int .i64 (wh v), .int .u64 (wl v)] 47)
  refine (interval_calls L.b L.l L.i b t _ (hB.hb.upd hU0 (by simp)) hs ht).mono ?_
  rintro e w1 ⟨rfl, rfl⟩
  go_wp2_with fail
  have HP := Lib.hid (fun W (hW : Upd [] w W) => place_calls L.b L.l L.i b (t - t % b.step) W (hB.hb.upd hW (by simp)) hs hn hn2 (by have := emod_le' ht.1 hs; unfold T62 at *; omega))
  have hw := HB.new w 47 [.int .i64 (wh v), .int .u64 (wl v)]
  have y0 := hw.cell (j := 0) rfl
  have y1 := hw.cell (j := 1) rfl
  have hpl : b.place (t - t % b.step) = b.place t := by
    unfold Band.place
    congr 2
    have h1 := Int.mul_ediv_add_emod t b.step
    have h2 : t - t % b.step = t / b.step * b.step := by rw [Int.mul_comm]; omega
    rw [h2, Int.mul_ediv_cancel _ (by omega)]
  rw [hpl] at HP
  have HC := Lib.hid (fun W (hW : Upd [] w W) => cput_calls L b (b.place t) ⟨t - t % b.step, v⟩ W (hB.upd0 hW) (place_nat hs hn ht.1).2 hn2 hli)
  have hput : { b with pl := b.pl.set (b.place t) (some ⟨t - t % b.step, v⟩) } = b.put t v := rfl
  rw [hput] at HC
  have HU0 := Lib.hid hU0
  clear hw hpl hput hB ht
  go_region_with (first
    | (go_at_call 76; refine (HP.out _ (by repeat (first | exact hU0 | refine Upd.drew ?_ | refine Upd.drewN ?_ _))).mono ?_; rintro e w1 ⟨rfl, n, rfl⟩)
    | (go_at_call 75; refine (HC.out _ (by repeat (first | exact hU0 | refine Upd.drew ?_ | refine Upd.drewN ?_ _))).mono ?_; rintro e w2 ⟨rfl, hU2, hB2⟩))
  all_goals
    go_wp2
    refine bodyPost_end (v := .tuple #[]) ?_ rfl ⟨rfl, ?_, hB2⟩
    · simp [results, Try.f45, go_sem]
    · first | exact (HU0.out.drewN _).of0.then hU2 | exact HU0.out.drew.of0.then hU2 | exact HU0.out.of0.then hU2
end Go.Proofs.Ytdjpcinibgbglaa
