/- (*File).Fetch. -/
import Derived.Test.YtdjpcinibgbglaaBy
import Derived.Test.YtdjpcinibgbglaaUpd
import Derived.Test.YtdjpcinibgbglaaFileL
set_option linter.unusedVariables false
set_option linter.unusedSimpArgs false
namespace Go.Proofs.Ytdjpcinibgbglaa
open Go.RowKit Go.Sort
abbrev noSer : List Value := [.string .empty, .int .i64 0, .int .i64 0, .slice none 0 0]
def ceC (o : Option Int) : List Value := [.bool o.isSome, .int .i64 (wh (o.getD 0)), .int .u64 (wl (o.getD 0))]
theorem ceC_len (o : Option Int) : (ceC o).length = 3 := rfl
theorem ceC_one (o : Option Int) : ∀ u ∈ ceC o, u.oneCell' = true := by intro u hu; simp [ceC] at hu; rcases hu with rfl | rfl | rfl <;> rfl
theorem infoC : (Try.prog.info? 70).map (fun i => (i.zero, i.size, i.bytes)) = some (some (.agg #[.bool false, .int .i64 0, .int .u64 0]), 3, 24) := by kernel_rfl
abbrev Ser := Int × Int × List (Option Int)
def serB (b : Band) (frm til : Int) : Ser :=
  let a := frm - frm % b.step + b.step
  let z0 := til - til % b.step + b.step
  let z := if z0 = a then z0 + b.step else z0
  (a, b.step, (List.range ((z - a) / b.step).toNat).map fun (k : Nat) => b.known (a + (k : Int) * b.step))
def Fl.fetch (f : Fl) (frm til now : Int) : Option Ser × Int :=
  if sec frm = false ∨ sec til = false ∨ sec now = false then (none, 1)
  else if til < frm then (none, 194)
  else if now < frm ∨ til < now - f.last then (none, 0)
  else ((f.bands.find? fun b => decide (now - max frm (now - f.last) ≤ reachS b.spc)).map fun b => serB b (max frm (now - f.last)) (min til now), 0)
def SerAt (w : World) (base : Nat) (r : Option Ser) (v : Value) : Prop :=
  match r with
  | none => v = .agg noSer.toArray
  | some s => ∃ sl, v = .agg #[.string .empty, .int .i64 s.1, .int .i64 s.2.1, sl] ∧ w.ownsRow base 70 3 sl s.2.2.length (s.2.2.flatMap ceC)
set_option maxRecDepth 20000 in
set_option maxHeartbeats 1000000 in
theorem fetch_no1 (base fb : Nat) (f : Fl) (v : Value) (Ls : List Loc) (frm til now : Int) (w : World) (hf : FileAt w base fb f v Ls) (hok : f.ok) (h : sec frm = false ∨ sec til = false ∨ sec now = false) :
    Calls Try.prog 24 #[.pointer (some ⟨fb, 0, none⟩), .int .i64 frm, .int .i64 til, .int .i64 now] w fun e w' => e = .returned (.tuple #[.agg noSer.toArray, .int .i64 1]) ∧ Upd [] w w' := by
  have hU0 := (Upd.refl [] w).alloc (.cells noSer.toArray 66)
  have hz := HB.new w 66 noSer
  have HM := Lib.hid (made_calls base fb f _ Ls _ (hf.upd0 hU0) hok.ne)
  have HS1 := Lib.hid (fun W => second_calls frm W)
  have HS2 := Lib.hid (fun W => second_calls til W)
  have HS3 := Lib.hid (fun W => second_calls now W)
  have hcase : (sec frm = false) ∨ (sec frm = true ∧ sec til = false) ∨ (sec frm = true ∧ sec til = true ∧ sec now = false) := by
    cases h1 : sec frm <;> cases h2 : sec til <;> cases h3 : sec now <;> simp_all
  clear hf h
  rcases hcase with h1 | ⟨h1, h2⟩ | ⟨h1, h2, h3⟩
  · rw [h1] at HS1
    clear h1
    go_enter Try.func24, Try.ntmps24
    go_wp2_with fail
    refine HM.out.mono ?_
    rintro e w1 ⟨rfl, hU1⟩
    have hz1 := hz.upd hU1 (by simp)
    have z0 := hz1.cell (j := 0) rfl
    have zf0 := hz1.free 0
    have z1 := hz1.cell (j := 1) rfl
    have zf1 := hz1.free 1
    have z2 := hz1.cell (j := 2) rfl
    have zf2 := hz1.free 2
    have z3 := hz1.cell (j := 3) rfl
    have zf3 := hz1.free 3
    have HZ := Lib.hid hz1
    have HU := Lib.hid (hU0.then hU1)
    clear hz hz1 hU0 hU1
    go_wp2_with fail
    refine (HS1.out _).mono ?_
    rintro e w2 ⟨rfl, rfl⟩
    go_wp2
    have i0 : ∀ X : ByteArray, _ := fun X => (HZ.out.set 0 (.string X)).cell (j := 0) rfl
    have i1 : ∀ X : ByteArray, _ := fun X => ((HZ.out.set 0 (.string X)).set 1 (.int .i64 0)).cell (j := 1) rfl
    have i2 : ∀ X : ByteArray, _ := fun X => (((HZ.out.set 0 (.string X)).set 1 (.int .i64 0)).set 2 (.int .i64 0)).cell (j := 2) rfl
    have i3 : ∀ X : ByteArray, _ := fun X => ((((HZ.out.set 0 (.string X)).set 1 (.int .i64 0)).set 2 (.int .i64 0)).set 3 (.slice none 0 0)).cell (j := 3) rfl
    refine bodyPost_ret (v := .tuple #[.agg noSer.toArray, .int .i64 1]) ?_ rfl ⟨rfl, ?_⟩
    · simp [results, Try.f24, go_sem, i0, i1, i2, i3]
      rfl
    · exact (((HU.out.setCell (.inr (Nat.le_refl _)) _).setCell (.inr (Nat.le_refl _)) _).setCell (.inr (Nat.le_refl _)) _).setCell (.inr (Nat.le_refl _)) _
  · rw [h1] at HS1
    rw [h2] at HS2
    clear h1 h2
    go_enter Try.func24, Try.ntmps24
    go_wp2_with fail
    refine HM.out.mono ?_
    rintro e w1 ⟨rfl, hU1⟩
    have hz1 := hz.upd hU1 (by simp)
    have z0 := hz1.cell (j := 0) rfl
    have zf0 := hz1.free 0
    have z1 := hz1.cell (j := 1) rfl
    have zf1 := hz1.free 1
    have z2 := hz1.cell (j := 2) rfl
    have zf2 := hz1.free 2
    have z3 := hz1.cell (j := 3) rfl
    have zf3 := hz1.free 3
    have HZ := Lib.hid hz1
    have HU := Lib.hid (hU0.then hU1)
    clear hz hz1 hU0 hU1
    go_wp2_with fail
    refine (HS1.out _).mono ?_
    rintro e w2 ⟨rfl, rfl⟩
    go_wp2_with fail
    refine (HS2.out _).mono ?_
    rintro e w2 ⟨rfl, rfl⟩
    go_wp2
    have i0 : ∀ X : ByteArray, _ := fun X => (HZ.out.set 0 (.string X)).cell (j := 0) rfl
    have i1 : ∀ X : ByteArray, _ := fun X => ((HZ.out.set 0 (.string X)).set 1 (.int .i64 0)).cell (j := 1) rfl
    have i2 : ∀ X : ByteArray, _ := fun X => (((HZ.out.set 0 (.string X)).set 1 (.int .i64 0)).set 2 (.int .i64 0)).cell (j := 2) rfl
    have i3 : ∀ X : ByteArray, _ := fun X => ((((HZ.out.set 0 (.string X)).set 1 (.int .i64 0)).set 2 (.int .i64 0)).set 3 (.slice none 0 0)).cell (j := 3) rfl
    refine bodyPost_ret (v := .tuple #[.agg noSer.toArray, .int .i64 1]) ?_ rfl ⟨rfl, ?_⟩
    · simp [results, Try.f24, go_sem, i0, i1, i2, i3]
      rfl
    · exact (((HU.out.setCell (.inr (Nat.le_refl _)) _).setCell (.inr (Nat.le_refl _)) _).setCell (.inr (Nat.le_refl _)) _).setCell (.inr (Nat.le_refl _)) _
  · rw [h1] at HS1
    rw [h2] at HS2
    rw [h3] at HS3
    clear h1 h2 h3
    go_enter Try.func24, Try.ntmps24
    go_wp2_with fail
    refine HM.out.mono ?_
    rintro e w1 ⟨rfl, hU1⟩
    have hz1 := hz.upd hU1 (by simp)
    have z0 := hz1.cell (j := 0) rfl
    have zf0 := hz1.free 0
    have z1 := hz1.cell (j := 1) rfl
    have zf1 := hz1.free 1
    have z2 := hz1.cell (j := 2) rfl
    have zf2 := hz1.free 2
    have z3 := hz1.cell (j := 3) rfl
    have zf3 := hz1.free 3
    have HZ := Lib.hid hz1
    have HU := Lib.hid (hU0.then hU1)
    clear hz hz1 hU0 hU1
    go_wp2_with fail
    refine (HS1.out _).mono ?_
    rintro e w2 ⟨rfl, rfl⟩
    go_wp2_with fail
    refine (HS2.out _).mono ?_
    rintro e w2 ⟨rfl, rfl⟩
    go_wp2_with fail
    refine (HS3.out _).mono ?_
    rintro e w2 ⟨rfl, rfl⟩
    go_wp2
    have i0 : ∀ X : ByteArray, _ := fun X => (HZ.out.set 0 (.string X)).cell (j := 0) rfl
    have i1 : ∀ X : ByteArray, _ := fun X => ((HZ.out.set 0 (.string X)).set 1 (.int .i64 0)).cell (j := 1) rfl
    have i2 : ∀ X : ByteArray, _ := fun X => (((HZ.out.set 0 (.string X)).set 1 (.int .i64 0)).set 2 (.int .i64 0)).cell (j := 2) rfl
    have i3 : ∀ X : ByteArray, _ := fun X => ((((HZ.out.set 0 (.string X)).set 1 (.int .i64 0)).set 2 (.int .i64 0)).set 3 (.slice none 0 0)).cell (j := 3) rfl
    refine bodyPost_ret (v := .tuple #[.agg noSer.toArray, .int .i64 1]) ?_ rfl ⟨rfl, ?_⟩
    · simp [results, Try.f24, go_sem, i0, i1, i2, i3]
      rfl
    · exact (((HU.out.setCell (.inr (Nat.le_refl _)) _).setCell (.inr (Nat.le_refl _)) _).setCell (.inr (Nat.le_refl _)) _).setCell (.inr (Nat.le_refl _)) _
set_option maxRecDepth 20000 in
set_option maxHeartbeats 1000000 in
theorem fetch_no2 (base fb : Nat) (f : Fl) (v : Value) (Ls : List Loc) (frm til now : Int) (w : World) (hf : FileAt w base fb f v Ls) (hok : f.ok) (h1 : sec frm = true) (h2 : sec til = true) (h3 : sec now = true) (h : til < frm) :
    Calls Try.prog 24 #[.pointer (some ⟨fb, 0, none⟩), .int .i64 frm, .int .i64 til, .int .i64 now] w fun e w' => e = .returned (.tuple #[.agg noSer.toArray, .int .i64 194]) ∧ Upd [] w w' := by
  have hU0 := (Upd.refl [] w).alloc (.cells noSer.toArray 66)
  have hz := HB.new w 66 noSer
  have HM := Lib.hid (made_calls base fb f _ Ls _ (hf.upd0 hU0) hok.ne)
  have HS1 := Lib.hid (fun W => second_calls frm W)
  have HS2 := Lib.hid (fun W => second_calls til W)
  have HS3 := Lib.hid (fun W => second_calls now W)
  rw [h1] at HS1
  rw [h2] at HS2
  rw [h3] at HS3
  have d1 : decide (til < frm) = true := decide_eq_true h
  clear hf h h1 h2 h3
  go_enter Try.func24, Try.ntmps24
  go_wp2_with fail
  refine HM.out.mono ?_
  rintro e w1 ⟨rfl, hU1⟩
  have hz1 := hz.upd hU1 (by simp)
  have z0 := hz1.cell (j := 0) rfl
  have zf0 := hz1.free 0
  have z1 := hz1.cell (j := 1) rfl
  have zf1 := hz1.free 1
  have z2 := hz1.cell (j := 2) rfl
  have zf2 := hz1.free 2
  have z3 := hz1.cell (j := 3) rfl
  have zf3 := hz1.free 3
  have HZ := Lib.hid hz1
  have HU := Lib.hid (hU0.then hU1)
  clear hz hz1 hU0 hU1
  go_wp2_with fail
  refine (HS1.out _).mono ?_
  rintro e w2 ⟨rfl, rfl⟩
  go_wp2_with fail
  refine (HS2.out _).mono ?_
  rintro e w2 ⟨rfl, rfl⟩
  go_wp2_with fail
  refine (HS3.out _).mono ?_
  rintro e w2 ⟨rfl, rfl⟩
  go_wp2
  have i0 : ∀ X : ByteArray, _ := fun X => (HZ.out.set 0 (.string X)).cell (j := 0) rfl
  have i1 : ∀ X : ByteArray, _ := fun X => ((HZ.out.set 0 (.string X)).set 1 (.int .i64 0)).cell (j := 1) rfl
  have i2 : ∀ X : ByteArray, _ := fun X => (((HZ.out.set 0 (.string X)).set 1 (.int .i64 0)).set 2 (.int .i64 0)).cell (j := 2) rfl
  have i3 : ∀ X : ByteArray, _ := fun X => ((((HZ.out.set 0 (.string X)).set 1 (.int .i64 0)).set 2 (.int .i64 0)).set 3 (.slice none 0 0)).cell (j := 3) rfl
  refine bodyPost_ret (v := .tuple #[.agg noSer.toArray, .int .i64 194]) ?_ rfl ⟨rfl, ?_⟩
  · simp [results, Try.f24, go_sem, i0, i1, i2, i3]
    rfl
  · exact (((HU.out.setCell (.inr (Nat.le_refl _)) _).setCell (.inr (Nat.le_refl _)) _).setCell (.inr (Nat.le_refl _)) _).setCell (.inr (Nat.le_refl _)) _
set_option maxRecDepth 20000 in
set_option maxHeartbeats 1000000 in
theorem fetch_no3 (base fb : Nat) (f : Fl) (v : Value) (Ls : List Loc) (frm til now : Int) (w : World) (hf : FileAt w base fb f v Ls) (hok : f.ok) (h1 : sec frm = true) (h2 : sec til = true) (h3 : sec now = true) (h4 : frm ≤ til) (h : now < frm ∨ til < now - f.last) :
    Calls Try.prog 24 #[.pointer (some ⟨fb, 0, none⟩), .int .i64 frm, .int .i64 til, .int .i64 now] w fun e w' => e = .returned (.tuple #[.agg noSer.toArray, .int .i64 0]) ∧ Upd [] w w' := by
  obtain ⟨A, c, rfl, hc1, hc2, hc3⟩ := hf.row.shape
  have hlen := hf.len
  obtain ⟨q, bl, hq1, hq2, hq3⟩ := file_last hok.ne
  obtain ⟨Ll, hLl⟩ : ∃ L, Ls[q]? = some L := ⟨Ls[q], List.getElem?_eq_getElem (by omega)⟩
  obtain ⟨g, o, rfl, hgo, hcell⟩ := hf.row.at_ hLl
  have htb : 0 ≤ frm ∧ frm ≤ 1099511627775 := by simpa [sec] using h1
  have hub : 0 ≤ til ∧ til ≤ 1099511627775 := by simpa [sec] using h2
  have hnb : 0 ≤ now ∧ now ≤ 1099511627775 := by simpa [sec] using h3
  have hlb := reach_le (hok.bands bl (List.mem_of_getElem? hq2)).spc
  rw [← hq3] at hlb
  have hI : I64 (bl.step * (bl.n : Int)) := by have := reach_le (hok.bands bl (List.mem_of_getElem? hq2)).spc; unfold reachS Band.spc at this; simp only at this; unfold I64; omega
  have hR : bl.step * (bl.n : Int) = f.last := by rw [hq3]; rfl
  have HLL := Lib.hid hLl
  have HQ2 := Lib.hid hq2
  have C0 := Lib.hid (show w.cell? ⟨g, o + q, none⟩ = some (pB Ll.b) by simpa using hcell 0 _ rfl)
  have hlm : Ls.length ≤ 9223372036854775807 := Nat.le_trans hc1 (Nat.le_trans hc2 maxLen_le)
  have eq1 : wrap64 ((Ls.length : Int) - 1) = (q : Int) := by rw [w64 (by unfold I64; omega)]; omega
  have eq3 : IntKind.i64.wrap ((Ls.length : Int) - 1) = (q : Int) := by rw [wrapI' (by unfold I64; omega)]; omega
  have hqI : (q : Int) < (Ls.length : Int) := by omega
  have ew1 : IntKind.i64.wrap (now - f.last) = now - f.last := wrapI' (by unfold I64; omega)
  have ew2 : wrap64 (now - f.last) = now - f.last := w64 (by unfold I64; omega)
  have HLB := Lib.hid hlb
  have HF := Lib.hid hf
  have HOK := Lib.hid hok
  have hU0 := (Upd.refl [] w).alloc (.cells noSer.toArray 66)
  have hz := HB.new w 66 noSer
  have HM := Lib.hid (made_calls base fb f _ Ls _ (hf.upd0 hU0) hok.ne)
  have HS1 := Lib.hid (fun W => second_calls frm W)
  have HS2 := Lib.hid (fun W => second_calls til W)
  have HS3 := Lib.hid (fun W => second_calls now W)
  rw [h1] at HS1
  rw [h2] at HS2
  rw [h3] at HS3
  have d1 : decide (til < frm) = false := decide_eq_false (by omega)
  obtain ⟨p1, hp1⟩ : ∃ p, p = decide (now < frm) := ⟨_, rfl⟩
  have d2 : decide (now < frm) = p1 := hp1.symm
  have d3 : p1 = false → decide (til < now - f.last) = true := fun e => decide_eq_true (by rw [hp1] at e; have := of_decide_eq_false e; omega)
  clear hf h h1 h2 h3 hp1 hok hcell hLl hq2 hc1 hc2 hc3 hq3 hgo hlb hlen
  go_enter Try.func24, Try.ntmps24
  go_wp2_with fail
  refine HM.out.mono ?_
  rintro e w1 ⟨rfl, hU1⟩
  have hz1 := hz.upd hU1 (by simp)
  have z0 := hz1.cell (j := 0) rfl
  have zf0 := hz1.free 0
  have z1 := hz1.cell (j := 1) rfl
  have zf1 := hz1.free 1
  have z2 := hz1.cell (j := 2) rfl
  have zf2 := hz1.free 2
  have z3 := hz1.cell (j := 3) rfl
  have zf3 := hz1.free 3
  have HZ := Lib.hid hz1
  have HU := Lib.hid (hU0.then hU1)
  clear hz hz1 hU0 hU1
  go_wp2_with fail
  refine (HS1.out _).mono ?_
  rintro e w2 ⟨rfl, rfl⟩
  go_wp2_with fail
  refine (HS2.out _).mono ?_
  rintro e w2 ⟨rfl, rfl⟩
  go_wp2_with fail
  refine (HS3.out _).mono ?_
  rintro e w2 ⟨rfl, rfl⟩
  have HF3 := Lib.hid (HF.out.upd0 HU.out)
  have hB3 := HF3.out.band q Ll bl HLL.out HQ2.out
  have x1 := fun d os => rg_cell (HF3.out.hf.cell (j := 2) rfl) d os
  have x2 := fun d os => rg_cell (HU.out.cell C0.out (by simp)) d os
  have x3 := fun d os => rg_cell (hB3.hb.cell (j := 0) rfl) d os
  have x4 := fun d os => rg_cell (hB3.hb.cell (j := 1) rfl) d os
  clear hB3 z0 z1 z2 z3 zf0 zf1 zf2 zf3
  go_wp2_with fail
  refine wp_region_quiet_below (by kernel_rfl) (by kernel_rfl) ?_
  repeat (go_big_quiet_step ((go_at_call 43; exact rg_of (reach_calls _ _ (by assumption) _))))
  refine wpQuiet_nil ?_
  rintro _ ⟨⟨dq, osq⟩, rfl⟩
  clear x1 x2 x3 x4
  obtain ⟨W4, hW4⟩ : ∃ W4, W4 = grow (redrawn w2 dq) osq := ⟨_, rfl⟩
  have HU4 := Lib.hid (show Upd [] w W4 by rw [hW4]; exact HU.out.then (rg_upd _ _ _))
  have HZ4 := Lib.hid (show HB W4 w.heap.size 66 noSer by rw [hW4]; exact HZ.out.upd (rg_upd _ _ _) (by simp))
  rw [← hW4]
  clear hW4
  have HZZ := Lib.hid HZ4.out
  have z0 := HZ4.out.cell (j := 0) rfl
  have zf0 := HZ4.out.free 0
  have z1 := HZ4.out.cell (j := 1) rfl
  have zf1 := HZ4.out.free 1
  have z2 := HZ4.out.cell (j := 2) rfl
  have zf2 := HZ4.out.free 2
  have z3 := HZ4.out.cell (j := 3) rfl
  have zf3 := HZ4.out.free 3
  cases p1
  · have d3' := d3 rfl
    clear d3
    go_wp2
    have i0 : ∀ X : ByteArray, _ := fun X => (HZ4.out.set 0 (.string X)).cell (j := 0) rfl
    have i1 : ∀ X : ByteArray, _ := fun X => ((HZ4.out.set 0 (.string X)).set 1 (.int .i64 0)).cell (j := 1) rfl
    have i2 : ∀ X : ByteArray, _ := fun X => (((HZ4.out.set 0 (.string X)).set 1 (.int .i64 0)).set 2 (.int .i64 0)).cell (j := 2) rfl
    have i3 : ∀ X : ByteArray, _ := fun X => ((((HZ4.out.set 0 (.string X)).set 1 (.int .i64 0)).set 2 (.int .i64 0)).set 3 (.slice none 0 0)).cell (j := 3) rfl
    refine bodyPost_ret (v := .tuple #[.agg noSer.toArray, .int .i64 0]) ?_ rfl ⟨rfl, ?_⟩
    · simp [results, Try.f24, go_sem, i0, i1, i2, i3]
      rfl
    · exact (((HU4.out.setCell (.inr (Nat.le_refl _)) _).setCell (.inr (Nat.le_refl _)) _).setCell (.inr (Nat.le_refl _)) _).setCell (.inr (Nat.le_refl _)) _
  · clear d3
    go_wp2
    have i0 : ∀ X : ByteArray, _ := fun X => (HZ4.out.set 0 (.string X)).cell (j := 0) rfl
    have i1 : ∀ X : ByteArray, _ := fun X => ((HZ4.out.set 0 (.string X)).set 1 (.int .i64 0)).cell (j := 1) rfl
    have i2 : ∀ X : ByteArray, _ := fun X => (((HZ4.out.set 0 (.string X)).set 1 (.int .i64 0)).set 2 (.int .i64 0)).cell (j := 2) rfl
    have i3 : ∀ X : ByteArray, _ := fun X => ((((HZ4.out.set 0 (.string X)).set 1 (.int .i64 0)).set 2 (.int .i64 0)).set 3 (.slice none 0 0)).cell (j := 3) rfl
    refine bodyPost_ret (v := .tuple #[.agg noSer.toArray, .int .i64 0]) ?_ rfl ⟨rfl, ?_⟩
    · simp [results, Try.f24, go_sem, i0, i1, i2, i3]
      rfl
    · exact (((HU4.out.setCell (.inr (Nat.le_refl _)) _).setCell (.inr (Nat.le_refl _)) _).setCell (.inr (Nat.le_refl _)) _).setCell (.inr (Nat.le_refl _)) _
theorem find_at {l : List Band} {p : Band → Bool} {b : Band} (h : l.find? p = some b) : ∃ k : Nat, l[k]? = some b ∧ p b = true ∧ ∀ (j : Nat) (c : Band), j < k → l[j]? = some c → p c = false := by
  induction l with
  | nil => simp at h
  | cons y l ih =>
    rw [List.find?_cons] at h
    cases hy : p y with
    | true =>
      rw [hy] at h
      simp at h
      subst h
      exact ⟨0, rfl, hy, fun j c hj => by omega⟩
    | false =>
      rw [hy] at h
      obtain ⟨k, h1, h2, h3⟩ := ih h
      refine ⟨k + 1, by simpa using h1, h2, fun j c hj hc => ?_⟩
      cases j with
      | zero => simp at hc; subst hc; exact hy
      | succ j => exact h3 j c (by omega) (by simpa using hc)
structure SerN (s fr ti a z : Int) (N : Nat) : Prop where
  a0 : a = fr - fr % s + s
  z0 : z = a + (N : Int) * s
  n1 : 1 ≤ N
  nb : (N : Int) ≤ 4398046511104
  zb : z ≤ 4398046511104
  ab : 0 ≤ a
theorem serB_eq {b : Band} {fr ti : Int} (hs : 1 ≤ b.step ∧ b.step ≤ 1099511627775) (h0 : 0 ≤ fr) (h1 : fr ≤ ti) (h2 : ti ≤ 1099511627775) :
    ∃ (a z0 z : Int) (N : Nat), serB b fr ti = (a, b.step, (List.range N).map fun (k : Nat) => b.known (a + (k : Int) * b.step)) ∧ z0 = ti - ti % b.step + b.step ∧ z = (if z0 = a then z0 + b.step else z0) ∧ SerN b.step fr ti a z N := by
  obtain ⟨s, hsv⟩ : ∃ s, s = b.step := ⟨_, rfl⟩
  rw [← hsv] at hs
  have e1 := Int.mul_ediv_add_emod fr s
  have e2 := Int.mul_ediv_add_emod ti s
  have m1 := emod_le' h0 hs.1
  have m2 := emod_le' (show 0 ≤ ti by omega) hs.1
  have q1 : fr / s ≤ ti / s := Int.ediv_le_ediv (by omega) h1
  obtain ⟨d, hd⟩ : ∃ d : Nat, ti / s - fr / s = (d : Int) := ⟨(ti / s - fr / s).toNat, by omega⟩
  have hz : ti - ti % s + s = (fr - fr % s + s) + (d : Int) * s := by
    have e3 : ti / s = fr / s + d := by omega
    rw [e3, Int.mul_add] at e2
    rw [Int.mul_comm (d : Int) s]
    omega
  have hds : (d : Int) * s ≤ ti := by
    have := Int.mul_nonneg (show 0 ≤ s by omega) (Int.ediv_nonneg h0 (show 0 ≤ s by omega))
    omega
  have hd1 : (d : Int) ≤ (d : Int) * s := by
    have := Int.mul_le_mul_of_nonneg_left hs.1 (Int.natCast_nonneg d)
    omega
  refine ⟨fr - fr % s + s, ti - ti % s + s, _, if d = 0 then 1 else d, ?_, by rw [hsv], rfl, ?_⟩
  · unfold serB
    rw [← hsv]
    dsimp only
    congr 3
    rw [hz]
    by_cases hd0 : d = 0
    · subst hd0
      simp only [Int.natCast_zero, Int.zero_mul, Int.add_zero, if_true]
      rw [show fr - fr % s + s + s - (fr - fr % s + s) = s by omega, Int.ediv_self (by omega)]
      rfl
    · have hpos : 0 < (d : Int) * s := Int.mul_pos (by omega) (by omega)
      rw [if_neg (by omega), if_neg hd0, show fr - fr % s + s + (d : Int) * s - (fr - fr % s + s) = (d : Int) * s by omega, Int.mul_ediv_cancel _ (by omega)]
      simp
  · rw [← hsv]
    by_cases hd0 : d = 0
    · subst hd0
      rw [if_pos rfl, if_pos (by simpa using hz)]
      refine ⟨rfl, ?_, by omega, by decide, by simp at hz; omega, by omega⟩
      simp at hz ⊢
      omega
    · have hpos : 0 < (d : Int) * s := Int.mul_pos (by omega) (by omega)
      rw [if_neg hd0, if_neg (by omega)]
      exact ⟨rfl, hz, by omega, by omega, by omega, by omega⟩
set_option maxRecDepth 20000 in
set_option maxHeartbeats 4000000 in
theorem fetch_some (base fb : Nat) (f : Fl) (v : Value) (Ls : List Loc) (frm til now : Int) (w : World) (hf : FileAt w base fb f v Ls) (hok : f.ok) (h1 : sec frm = true) (h2 : sec til = true) (h3 : sec now = true) (h4 : frm ≤ til) (h5 : frm ≤ now) (h6 : now - f.last ≤ til) (b : Band)
    (hfb : f.bands.find? (fun b => decide (now - max frm (now - f.last) ≤ reachS b.spc)) = some b) :
    Calls Try.prog 24 #[.pointer (some ⟨fb, 0, none⟩), .int .i64 frm, .int .i64 til, .int .i64 now] w fun e w' => ∃ val, e = .returned (.tuple #[val, .int .i64 0]) ∧ SerAt w' w.heap.size (some (serB b (max frm (now - f.last)) (min til now))) val ∧ Upd [] w w' := by
  obtain ⟨A, c, rfl, hc1, hc2, hc3⟩ := hf.row.shape
  have hlen := hf.len
  obtain ⟨q, bl, hq1, hq2, hq3⟩ := file_last hok.ne
  obtain ⟨Ll, hLl⟩ : ∃ L, Ls[q]? = some L := ⟨Ls[q], List.getElem?_eq_getElem (by omega)⟩
  obtain ⟨g, o, rfl, hgo, hcell⟩ := hf.row.at_ hLl
  have htb : 0 ≤ frm ∧ frm ≤ 1099511627775 := by simpa [sec] using h1
  have hub : 0 ≤ til ∧ til ≤ 1099511627775 := by simpa [sec] using h2
  have hnb : 0 ≤ now ∧ now ≤ 1099511627775 := by simpa [sec] using h3
  have hlb := reach_le (hok.bands bl (List.mem_of_getElem? hq2)).spc
  rw [← hq3] at hlb
  have hI : I64 (bl.step * (bl.n : Int)) := by have := reach_le (hok.bands bl (List.mem_of_getElem? hq2)).spc; unfold reachS Band.spc at this; simp only at this; unfold I64; omega
  have hR : bl.step * (bl.n : Int) = f.last := by rw [hq3]; rfl
  have HLL := Lib.hid hLl
  have HQ2 := Lib.hid hq2
  have C0 := Lib.hid (show w.cell? ⟨g, o + q, none⟩ = some (pB Ll.b) by simpa using hcell 0 _ rfl)
  have hlm : Ls.length ≤ 9223372036854775807 := Nat.le_trans hc1 (Nat.le_trans hc2 maxLen_le)
  have eq1 : wrap64 ((Ls.length : Int) - 1) = (q : Int) := by rw [w64 (by unfold I64; omega)]; omega
  have eq3 : IntKind.i64.wrap ((Ls.length : Int) - 1) = (q : Int) := by rw [wrapI' (by unfold I64; omega)]; omega
  have hqI : (q : Int) < (Ls.length : Int) := by omega
  have ew1 : IntKind.i64.wrap (now - f.last) = now - f.last := wrapI' (by unfold I64; omega)
  have ew2 : wrap64 (now - f.last) = now - f.last := w64 (by unfold I64; omega)
  have HLB := Lib.hid hlb
  have HF := Lib.hid hf
  have HOK := Lib.hid hok
  have hU0 := (Upd.refl [] w).alloc (.cells noSer.toArray 66)
  have hz := HB.new w 66 noSer
  have HM := Lib.hid (made_calls base fb f _ Ls _ (hf.upd0 hU0) hok.ne)
  have HS1 := Lib.hid (fun W => second_calls frm W)
  have HS2 := Lib.hid (fun W => second_calls til W)
  have HS3 := Lib.hid (fun W => second_calls now W)
  rw [h1] at HS1
  rw [h2] at HS2
  rw [h3] at HS3
  have d1 : decide (til < frm) = false := decide_eq_false (by omega)
  have d2 : decide (now < frm) = false := decide_eq_false (by omega)
  have d3 : decide (til < now - f.last) = false := decide_eq_false (by omega)
  obtain ⟨k, hk1, hk2, hk3⟩ := find_at hfb
  have hkl : k < f.bands.length := (List.getElem?_eq_some_iff.1 hk1).1
  have hbk := (hok.bands b (List.mem_of_getElem? hk1)).b
  obtain ⟨fr, hfr⟩ : ∃ fr, fr = max frm (now - f.last) := ⟨_, rfl⟩
  obtain ⟨ti, hti⟩ : ∃ ti, ti = min til now := ⟨_, rfl⟩
  rw [← hfr] at hk2 hk3 ⊢
  rw [← hti]
  have hfrb : 0 ≤ fr ∧ fr ≤ ti ∧ ti ≤ 1099511627775 ∧ fr ≤ now := by omega
  have HFR := Lib.hid hfr
  have HTI := Lib.hid hti
  obtain ⟨a, z0', z, N, hser, hz0, hz, hN⟩ := serB_eq (b := b) ⟨hbk.1, hbk.2.1⟩ hfrb.1 hfrb.2.1 hfrb.2.2.1
  rw [hser]
  have HSN := Lib.hid hN
  have HZ0 := Lib.hid (And.intro hz0 hz)
  have HRE := Lib.hid (fun W (hW : Upd [] w W) => reaches_calls base fb f _ Ls (now - fr) W (hf.upd0 hW) hok k hkl (fun c hc => by rw [hk1] at hc; injection hc with hc; subst hc; exact of_decide_eq_true hk2) (fun j c hj hc => of_decide_eq_false (hk3 j c hj hc)))
  have HK1 := Lib.hid hk1
  have HLEN := Lib.hid hlen
  have HKB := Lib.hid hbk
  have HFRB := Lib.hid hfrb
  have HCC := Lib.hid (And.intro hc1 hc2)
  have hmx : (if frm < now - f.last then now - f.last else frm) = fr := by rw [HFR.out]; split <;> omega
  have hmn : (if now < til then now else til) = ti := by rw [HTI.out]; split <;> omega
  clear hf h1 h2 h3 hok hcell hLl hq2 hc1 hc2 hc3 hq3 hgo hlb hlen hfb hk1 hk2 hk3 hfr hti hser hz0 hz hN hbk hfrb h4 h5 h6
  go_enter Try.func24, Try.ntmps24
  go_wp2_with fail
  refine HM.out.mono ?_
  rintro e w1 ⟨rfl, hU1⟩
  have hz1 := hz.upd hU1 (by simp)
  have z0 := hz1.cell (j := 0) rfl
  have zf0 := hz1.free 0
  have z1 := hz1.cell (j := 1) rfl
  have zf1 := hz1.free 1
  have z2 := hz1.cell (j := 2) rfl
  have zf2 := hz1.free 2
  have z3 := hz1.cell (j := 3) rfl
  have zf3 := hz1.free 3
  have HZ := Lib.hid hz1
  have HU := Lib.hid (hU0.then hU1)
  clear hz hz1 hU0 hU1
  go_wp2_with fail
  refine (HS1.out _).mono ?_
  rintro e w2 ⟨rfl, rfl⟩
  go_wp2_with fail
  refine (HS2.out _).mono ?_
  rintro e w2 ⟨rfl, rfl⟩
  go_wp2_with fail
  refine (HS3.out _).mono ?_
  rintro e w2 ⟨rfl, rfl⟩
  have HF3 := Lib.hid (HF.out.upd0 HU.out)
  have hB3 := HF3.out.band q Ll bl HLL.out HQ2.out
  have x1 := fun d os => rg_cell (HF3.out.hf.cell (j := 2) rfl) d os
  have x2 := fun d os => rg_cell (HU.out.cell C0.out (by simp)) d os
  have x3 := fun d os => rg_cell (hB3.hb.cell (j := 0) rfl) d os
  have x4 := fun d os => rg_cell (hB3.hb.cell (j := 1) rfl) d os
  clear hB3 z0 z1 z2 z3 zf0 zf1 zf2 zf3
  go_wp2_with fail
  refine wp_region_quiet_below (by kernel_rfl) (by kernel_rfl) ?_
  repeat (go_big_quiet_step ((go_at_call 43; exact rg_of (reach_calls _ _ (by assumption) _))))
  refine wpQuiet_nil ?_
  rintro _ ⟨⟨dq, osq⟩, rfl⟩
  clear x1 x2 x3 x4
  obtain ⟨W4, hW4⟩ : ∃ W4, W4 = grow (redrawn w2 dq) osq := ⟨_, rfl⟩
  have HU4 := Lib.hid (show Upd [] w W4 by rw [hW4]; exact HU.out.then (rg_upd _ _ _))
  have HZ4 := Lib.hid (show HB W4 w.heap.size 66 noSer by rw [hW4]; exact HZ.out.upd (rg_upd _ _ _) (by simp))
  rw [← hW4]
  clear hW4
  go_wp2_with fail
  clear hmx hmn d1 d2 d3 eq1 eq3 ew1 ew2 hI hR hqI
  have hkL : k < Ls.length := by rw [HLEN.out]; exact hkl
  obtain ⟨Lk, hLk⟩ : ∃ L, Ls[k]? = some L := ⟨Ls[k], List.getElem?_eq_getElem hkL⟩
  have hF4 := HF.out.upd0 HU4.out
  obtain ⟨g', o', hgo', _, hck⟩ := hF4.row.at_ hLk
  injection hgo' with hgo'
  injection hgo' with hg' ho' _
  subst hg' ho'
  have HBK := Lib.hid (hF4.band k Lk b hLk HK1.out)
  have x0 := fun d os => rg_cell (show W4.cell? ⟨g, o + k, none⟩ = some (pB Lk.b) by simpa using hck 0 _ rfl) d os
  have x1 := fun d os => rg_cell (hF4.hf.cell (j := 2) rfl) d os
  have hkI : (k : Int) < (Ls.length : Int) := by omega
  have hwf : IntKind.i64.wrap (now - fr) = now - fr := wrapI' (by have := HFRB.out; unfold I64; omega)
  clear hF4 hck hLk
  refine wp_region_quiet_below (by kernel_rfl) (by kernel_rfl) ?_
  repeat (go_big_quiet_step ((go_at_call 44; exact rg_of (HRE.out _ (HU4.out.then (rg_upd _ _ _))))))
  refine wpQuiet_nil ?_
  rintro _ ⟨⟨dq, osq⟩, rfl⟩
  clear x0 x1 hwf
  obtain ⟨W5, hW5⟩ : ∃ W5, W5 = grow (redrawn W4 dq) osq := ⟨_, rfl⟩
  have HU5 := Lib.hid (show Upd [] w W5 by rw [hW5]; exact HU4.out.then (rg_upd _ _ _))
  have HZ5 := Lib.hid (show HB W5 w.heap.size 66 noSer by rw [hW5]; exact HZ4.out.upd (rg_upd _ _ _) (by simp))
  have HB5 := Lib.hid (show BandAt W5 Lk b by rw [hW5]; exact HBK.out.upd0 (rg_upd _ _ _))
  have y0 := HB5.out.hb.cell (j := 0) rfl
  rw [← hW5]
  clear hW5
  have HFL1 := Lib.hid (floor_calls fr b.step (by have := HFRB.out; unfold T62; omega) HKB.out.1 W5)
  have HFL2 := Lib.hid (floor_calls ti b.step (by have := HFRB.out; unfold T62; omega) HKB.out.1 W5)
  go_wp2_with fail
  refine HFL1.out.mono ?_
  rintro e w6 ⟨rfl, rfl⟩
  go_wp2_with fail
  refine HFL2.out.mono ?_
  rintro e w6 ⟨rfl, rfl⟩
  have ea : wrap64 (fr - fr % b.step + b.step) = a := by
    have h1 := HSN.out.a0
    have h2 := HSN.out.ab
    have h3 := HKB.out.1
    have h4 := HKB.out.2.1
    have h5 := HFRB.out
    have h6 := emod_le' h5.1 h3
    rw [h1, w64 (by unfold I64; omega)]
  have ez : wrap64 (ti - ti % b.step + b.step) = z0' := by
    have h3 := HKB.out.1
    have h4 := HKB.out.2.1
    have h5 := HFRB.out
    have h6 := emod_le' (show 0 ≤ ti by omega) h3
    rw [HZ0.out.1, w64 (by unfold I64; omega)]
  by_cases hza : z0' = a
  · have d3 : (z0' == a) = true := by simpa using hza
    have ez2 : wrap64 (z0' + b.step) = z := by
      have h1 := HZ0.out.2
      rw [if_pos hza] at h1
      have h2 := HSN.out.zb
      have h3 := HSN.out.ab
      have h4 := HKB.out.1
      rw [w64 (by unfold I64; omega), h1]
    clear hza
    go_wp2_with fail
    try simp only [ea, ez, ez2]
    clear ea ez ez2 d3
    have hws : HB (w6.alloc (.cells #[.string .empty, .int .i64 a, .int .i64 b.step, .slice none 0 0] 66)) w6.heap.size 66 [.string .empty, .int .i64 a, .int .i64 b.step, .slice none 0 0] := HB.new w6 66 [.string .empty, .int .i64 a, .int .i64 b.step, .slice none 0 0]
    have HWS := Lib.hid hws
    have HU6 := Lib.hid ((Upd.refl [] w6).alloc (.cells #[.string .empty, .int .i64 a, .int .i64 b.step, .slice none 0 0] 66))
    have hsz6 : w.heap.size < w6.heap.size := HZ5.out.lt
    clear hws
    go_loopw [16] (fun tv wr => ∃ (q : Nat) (tt : Int) (sl : Value), q ≤ N ∧ tv = .int .i64 tt ∧ tt = a + (q : Int) * b.step ∧ Upd [] w6 wr ∧ HB wr w6.heap.size 66 [.string .empty, .int .i64 a, .int .i64 b.step, sl] ∧ wr.ownsRow (w6.heap.size + 1) 70 3 sl q (((List.range q).map fun (k : Nat) => b.known (a + (k : Int) * b.step)).flatMap ceC)) (fun tv _ => (z - intOf tv).toNat)
    case atStart => exact ⟨0, a, .slice none 0 0, Nat.zero_le _, rfl, by simp, HU6.out, HWS.out, ⟨rfl, .inl ⟨rfl, rfl⟩⟩⟩
    case round =>
      obtain ⟨q, tt, sl, hq, rfl, htt, hU, hS, hO⟩ := hrel
      have HUR := Lib.hid hU
      have HSR := Lib.hid hS
      have HO := Lib.hid hO
      have HTT := Lib.hid htt
      have hsz := hU.size
      clear hU hS hO htt
      by_cases hlt : q < N
      · have hmul : a + (q : Int) * b.step + b.step ≤ z := by
          have h1 := HSN.out.z0
          have h2 : ((q : Int) + 1) * b.step ≤ (N : Int) * b.step := Int.mul_le_mul_of_nonneg_right (by omega) (by have := HKB.out.1; omega)
          rw [Int.add_mul, Int.one_mul] at h2
          omega
        have hq0 : 0 ≤ (q : Int) * b.step := Int.mul_nonneg (by omega) (by have := HKB.out.1; omega)
        have htz : tt + b.step ≤ z := by rw [HTT.out]; exact hmul
        have htb : 0 ≤ tt := by rw [HTT.out]; have := HSN.out.ab; omega
        have hzb := HSN.out.zb
        have hsp := HKB.out.1
        have HKN := Lib.hid (fun W (hW : Upd [] wr W) => known_calls Lk b tt W (((HB5.out.upd0 HUR.out)).upd0 hW) HKB.out.1 HKB.out.2.2.1 HKB.out.2.2.2.1 (by omega))
        obtain ⟨x, hx⟩ : ∃ x, x = b.known tt := ⟨_, rfl⟩
        rw [← hx] at HKN
        have HX := Lib.hid hx
        have d4 : decide (tt < z) = true := decide_eq_true (by omega)
        have ew : wrap64 (tt + b.step) = tt + b.step := w64 (by unfold I64; omega)
        have hb24 : (q + 1) * 24 ≤ 140737488355328 := by have := HSN.out.nb; omega
        obtain ⟨B, qq, rfl, _, _, _⟩ := own_shape HO.out
        have HHN := Lib.hid (show a + (((q + 1 : Nat) : Int)) * b.step = tt + b.step by rw [HTT.out, Int.natCast_succ, Int.add_mul, Int.one_mul]; omega)
        have hms : (z - (tt + b.step)).toNat < (z - tt).toNat := by omega
        clear hx hmul hq0 htz
        go_wp2_with fail
        refine (HKN.out _ (Upd.refl _ _)).mono ?_
        rintro e w8 ⟨rfl, hU8⟩
        have HU8 := Lib.hid hU8
        have hN := HB.new w8 47 [.int .i64 (wh (x.getD 0)), .int .u64 (wl (x.getD 0))]
        have n0 := hN.cell (j := 0) rfl
        have n1 := hN.cell (j := 1) rfl
        have hS8 := (HSR.out.upd hU8 (by simp)).alloc (.cells #[.int .i64 (wh (x.getD 0)), .int .u64 (wl (x.getD 0))] 47)
        have s3 := hS8.cell (j := 3) rfl
        have HS8 := Lib.hid hS8
        have HN := Lib.hid (HB.new1 w8 (.cells #[.int .i64 (wh (x.getD 0)), .int .u64 (wl (x.getD 0))] 47) 70 (ceC x))
        have HUA := Lib.hid (((hU8.alloc (.cells #[.int .i64 (wh (x.getD 0)), .int .u64 (wl (x.getD 0))] 47)).alloc (.cells (ceC x).toArray 70)) : Upd [] wr _)
        clear hU8 hN hS8
        go_wp2_with (at_builtin; go_must (refine wp_append1 (w6.heap.size + 1) 64 70 _ 3 24 (.slice B q qq) q _ (ceC x) _ rfl rfl (by kernel_rfl) infoC rfl (by decide) (by decide) rfl rfl (ceC_len _) (ceC_one _) (own_upd HO.out HUA.out (by simp)) HN.out (by simp; have := HU8.out.size; have := HSR.out.lt; omega) hb24 ?_))
        intro v1 w1 hown1 hU1 hat1
        obtain ⟨A1, c1, rfl, _, _, _⟩ := own_shape hown1
        have HNI := Lib.hid (own_notin' HO.out HSR.out (by decide))
        have hS1 := (HS8.out.alloc (.cells (ceC x).toArray 70)).upd hU1 HNI.out
        have s30 := hS1.cell (j := 3) rfl
        have sf3 := hS1.free 3
        have HS1' := Lib.hid hS1
        have HO1 := Lib.hid (own_upd hown1 ((Upd.refl [w6.heap.size] w1).setCell (p := ⟨w6.heap.size, 3, none⟩) (.inl (by simp)) (.slice A1 (q + 1) c1)) (fun g hg hm => by have := own_base hown1 g hg; simp at hm; omega))
        have HU1 := Lib.hid ((app_upd HUR.out HUA.out hU1 (fun g hg => Nat.le_of_succ_le (own_base HO.out g hg))).setCell (p := ⟨w6.heap.size, 3, none⟩) (.inr (Nat.le_refl _)) (.slice A1 (q + 1) c1))
        have HCE := Lib.hid (show (((List.range (q + 1)).map fun (k : Nat) => b.known (a + (k : Int) * b.step)).flatMap ceC) = (((List.range q).map fun (k : Nat) => b.known (a + (k : Int) * b.step)).flatMap ceC) ++ ceC x by rw [List.range_succ, List.map_append, List.flatMap_append, HX.out, HTT.out]; simp)
        clear hown1 hU1 hat1 hS1 n0 n1 s3
        go_wp2
        exact ⟨⟨q + 1, tt + b.step, .slice A1 (q + 1) c1, hlt, by rw [ew], HHN.out.symm, HU1.out, HS1'.out.set 3 (.slice A1 (q + 1) c1), by rw [HCE.out]; exact HO1.out⟩, by rw [ew]; exact hms⟩
      · obtain rfl : q = N := by omega
        obtain ⟨A2, c2, rfl, _, _, _⟩ := own_shape HO.out
        have hz2 : tt = z := by rw [HTT.out, HSN.out.z0]
        have d4 : decide (tt < z) = false := decide_eq_false (by omega)
        have HZF := Lib.hid (HZ5.out.upd HUR.out (by simp))
        have z0 := HZF.out.cell (j := 0) rfl
        have zf0 := HZF.out.free 0
        have z1 := HZF.out.cell (j := 1) rfl
        have zf1 := HZF.out.free 1
        have z2 := HZF.out.cell (j := 2) rfl
        have zf2 := HZF.out.free 2
        have z3 := HZF.out.cell (j := 3) rfl
        have zf3 := HZF.out.free 3
        have s0 := HSR.out.cell (j := 0) rfl
        have s1 := HSR.out.cell (j := 1) rfl
        have s2 := HSR.out.cell (j := 2) rfl
        have s3 := HSR.out.cell (j := 3) rfl
        have hne1 : ¬ (w.heap.size = w6.heap.size) := by omega
        have hne2 : ¬ (w6.heap.size = w.heap.size) := by omega
        have HFIN := Lib.hid (fun (x0 x1 x2 x3 : Value) => own_upd HO.out ((((((Upd.refl [w.heap.size] wr).setCell (p := ⟨w.heap.size, 0, none⟩) (.inl (by simp)) x0).setCell (p := ⟨w.heap.size, 1, none⟩) (.inl (by simp)) x1).setCell (p := ⟨w.heap.size, 2, none⟩) (.inl (by simp)) x2).setCell (p := ⟨w.heap.size, 3, none⟩) (.inl (by simp)) x3)) (fun g hg hm => by have := own_base HO.out g hg; simp at hm; omega))
        have HUF := Lib.hid (fun (x0 x1 x2 x3 : Value) => (((((HU5.out.then HUR.out).setCell (p := ⟨w.heap.size, 0, none⟩) (.inr (Nat.le_refl _)) x0).setCell (p := ⟨w.heap.size, 1, none⟩) (.inr (Nat.le_refl _)) x1).setCell (p := ⟨w.heap.size, 2, none⟩) (.inr (Nat.le_refl _)) x2).setCell (p := ⟨w.heap.size, 3, none⟩) (.inr (Nat.le_refl _)) x3))
        clear hz2
        go_wp2
        have i0 : ∀ X : ByteArray, _ := fun X => (HZF.out.set 0 (.string X)).cell (j := 0) rfl
        have i1 : ∀ X : ByteArray, _ := fun X => ((HZF.out.set 0 (.string X)).set 1 (.int .i64 a)).cell (j := 1) rfl
        have i2 : ∀ X : ByteArray, _ := fun X => (((HZF.out.set 0 (.string X)).set 1 (.int .i64 a)).set 2 (.int .i64 b.step)).cell (j := 2) rfl
        have i3 : ∀ X : ByteArray, _ := fun X => ((((HZF.out.set 0 (.string X)).set 1 (.int .i64 a)).set 2 (.int .i64 b.step)).set 3 (.slice A2 q c2)).cell (j := 3) rfl
        refine bodyPost_ret (v := .tuple #[.agg #[.string .empty, .int .i64 a, .int .i64 b.step, .slice A2 q c2], .int .i64 0]) ?_ rfl ⟨_, rfl, ⟨.slice A2 q c2, rfl, ?_⟩, HUF.out _ _ _ _⟩
        · simp [results, Try.f24, go_sem, i0, i1, i2, i3]
        · have hfin := own_base_mono (HFIN.out (.string .empty) (.int .i64 a) (.int .i64 b.step) (.slice A2 q c2)) (show w.heap.size ≤ w6.heap.size + 1 by omega)
          simp only [List.length_map, List.length_range]
          exact hfin
  · have d3 : (z0' == a) = false := by simpa using hza
    have ez2 : z0' = z := by have h1 := HZ0.out.2; rw [if_neg hza] at h1; exact h1.symm
    rw [ez2] at d3 ez
    clear hza
    go_wp2_with fail
    try simp only [ea, ez, ez2]
    clear ea ez ez2 d3
    have hws : HB (w6.alloc (.cells #[.string .empty, .int .i64 a, .int .i64 b.step, .slice none 0 0] 66)) w6.heap.size 66 [.string .empty, .int .i64 a, .int .i64 b.step, .slice none 0 0] := HB.new w6 66 [.string .empty, .int .i64 a, .int .i64 b.step, .slice none 0 0]
    have HWS := Lib.hid hws
    have HU6 := Lib.hid ((Upd.refl [] w6).alloc (.cells #[.string .empty, .int .i64 a, .int .i64 b.step, .slice none 0 0] 66))
    have hsz6 : w.heap.size < w6.heap.size := HZ5.out.lt
    clear hws
    go_loopw [16] (fun tv wr => ∃ (q : Nat) (tt : Int) (sl : Value), q ≤ N ∧ tv = .int .i64 tt ∧ tt = a + (q : Int) * b.step ∧ Upd [] w6 wr ∧ HB wr w6.heap.size 66 [.string .empty, .int .i64 a, .int .i64 b.step, sl] ∧ wr.ownsRow (w6.heap.size + 1) 70 3 sl q (((List.range q).map fun (k : Nat) => b.known (a + (k : Int) * b.step)).flatMap ceC)) (fun tv _ => (z - intOf tv).toNat)
    case atStart => exact ⟨0, a, .slice none 0 0, Nat.zero_le _, rfl, by simp, HU6.out, HWS.out, ⟨rfl, .inl ⟨rfl, rfl⟩⟩⟩
    case round =>
      obtain ⟨q, tt, sl, hq, rfl, htt, hU, hS, hO⟩ := hrel
      have HUR := Lib.hid hU
      have HSR := Lib.hid hS
      have HO := Lib.hid hO
      have HTT := Lib.hid htt
      have hsz := hU.size
      clear hU hS hO htt
      by_cases hlt : q < N
      · have hmul : a + (q : Int) * b.step + b.step ≤ z := by
          have h1 := HSN.out.z0
          have h2 : ((q : Int) + 1) * b.step ≤ (N : Int) * b.step := Int.mul_le_mul_of_nonneg_right (by omega) (by have := HKB.out.1; omega)
          rw [Int.add_mul, Int.one_mul] at h2
          omega
        have hq0 : 0 ≤ (q : Int) * b.step := Int.mul_nonneg (by omega) (by have := HKB.out.1; omega)
        have htz : tt + b.step ≤ z := by rw [HTT.out]; exact hmul
        have htb : 0 ≤ tt := by rw [HTT.out]; have := HSN.out.ab; omega
        have hzb := HSN.out.zb
        have hsp := HKB.out.1
        have HKN := Lib.hid (fun W (hW : Upd [] wr W) => known_calls Lk b tt W (((HB5.out.upd0 HUR.out)).upd0 hW) HKB.out.1 HKB.out.2.2.1 HKB.out.2.2.2.1 (by omega))
        obtain ⟨x, hx⟩ : ∃ x, x = b.known tt := ⟨_, rfl⟩
        rw [← hx] at HKN
        have HX := Lib.hid hx
        have d4 : decide (tt < z) = true := decide_eq_true (by omega)
        have ew : wrap64 (tt + b.step) = tt + b.step := w64 (by unfold I64; omega)
        have hb24 : (q + 1) * 24 ≤ 140737488355328 := by have := HSN.out.nb; omega
        obtain ⟨B, qq, rfl, _, _, _⟩ := own_shape HO.out
        have HHN := Lib.hid (show a + (((q + 1 : Nat) : Int)) * b.step = tt + b.step by rw [HTT.out, Int.natCast_succ, Int.add_mul, Int.one_mul]; omega)
        have hms : (z - (tt + b.step)).toNat < (z - tt).toNat := by omega
        clear hx hmul hq0 htz
        go_wp2_with fail
        refine (HKN.out _ (Upd.refl _ _)).mono ?_
        rintro e w8 ⟨rfl, hU8⟩
        have HU8 := Lib.hid hU8
        have hN := HB.new w8 47 [.int .i64 (wh (x.getD 0)), .int .u64 (wl (x.getD 0))]
        have n0 := hN.cell (j := 0) rfl
        have n1 := hN.cell (j := 1) rfl
        have hS8 := (HSR.out.upd hU8 (by simp)).alloc (.cells #[.int .i64 (wh (x.getD 0)), .int .u64 (wl (x.getD 0))] 47)
        have s3 := hS8.cell (j := 3) rfl
        have HS8 := Lib.hid hS8
        have HN := Lib.hid (HB.new1 w8 (.cells #[.int .i64 (wh (x.getD 0)), .int .u64 (wl (x.getD 0))] 47) 70 (ceC x))
        have HUA := Lib.hid (((hU8.alloc (.cells #[.int .i64 (wh (x.getD 0)), .int .u64 (wl (x.getD 0))] 47)).alloc (.cells (ceC x).toArray 70)) : Upd [] wr _)
        clear hU8 hN hS8
        go_wp2_with (at_builtin; go_must (refine wp_append1 (w6.heap.size + 1) 64 70 _ 3 24 (.slice B q qq) q _ (ceC x) _ rfl rfl (by kernel_rfl) infoC rfl (by decide) (by decide) rfl rfl (ceC_len _) (ceC_one _) (own_upd HO.out HUA.out (by simp)) HN.out (by simp; have := HU8.out.size; have := HSR.out.lt; omega) hb24 ?_))
        intro v1 w1 hown1 hU1 hat1
        obtain ⟨A1, c1, rfl, _, _, _⟩ := own_shape hown1
        have HNI := Lib.hid (own_notin' HO.out HSR.out (by decide))
        have hS1 := (HS8.out.alloc (.cells (ceC x).toArray 70)).upd hU1 HNI.out
        have s30 := hS1.cell (j := 3) rfl
        have sf3 := hS1.free 3
        have HS1' := Lib.hid hS1
        have HO1 := Lib.hid (own_upd hown1 ((Upd.refl [w6.heap.size] w1).setCell (p := ⟨w6.heap.size, 3, none⟩) (.inl (by simp)) (.slice A1 (q + 1) c1)) (fun g hg hm => by have := own_base hown1 g hg; simp at hm; omega))
        have HU1 := Lib.hid ((app_upd HUR.out HUA.out hU1 (fun g hg => Nat.le_of_succ_le (own_base HO.out g hg))).setCell (p := ⟨w6.heap.size, 3, none⟩) (.inr (Nat.le_refl _)) (.slice A1 (q + 1) c1))
        have HCE := Lib.hid (show (((List.range (q + 1)).map fun (k : Nat) => b.known (a + (k : Int) * b.step)).flatMap ceC) = (((List.range q).map fun (k : Nat) => b.known (a + (k : Int) * b.step)).flatMap ceC) ++ ceC x by rw [List.range_succ, List.map_append, List.flatMap_append, HX.out, HTT.out]; simp)
        clear hown1 hU1 hat1 hS1 n0 n1 s3
        go_wp2
        exact ⟨⟨q + 1, tt + b.step, .slice A1 (q + 1) c1, hlt, by rw [ew], HHN.out.symm, HU1.out, HS1'.out.set 3 (.slice A1 (q + 1) c1), by rw [HCE.out]; exact HO1.out⟩, by rw [ew]; exact hms⟩
      · obtain rfl : q = N := by omega
        obtain ⟨A2, c2, rfl, _, _, _⟩ := own_shape HO.out
        have hz2 : tt = z := by rw [HTT.out, HSN.out.z0]
        have d4 : decide (tt < z) = false := decide_eq_false (by omega)
        have HZF := Lib.hid (HZ5.out.upd HUR.out (by simp))
        have z0 := HZF.out.cell (j := 0) rfl
        have zf0 := HZF.out.free 0
        have z1 := HZF.out.cell (j := 1) rfl
        have zf1 := HZF.out.free 1
        have z2 := HZF.out.cell (j := 2) rfl
        have zf2 := HZF.out.free 2
        have z3 := HZF.out.cell (j := 3) rfl
        have zf3 := HZF.out.free 3
        have s0 := HSR.out.cell (j := 0) rfl
        have s1 := HSR.out.cell (j := 1) rfl
        have s2 := HSR.out.cell (j := 2) rfl
        have s3 := HSR.out.cell (j := 3) rfl
        have hne1 : ¬ (w.heap.size = w6.heap.size) := by omega
        have hne2 : ¬ (w6.heap.size = w.heap.size) := by omega
        have HFIN := Lib.hid (fun (x0 x1 x2 x3 : Value) => own_upd HO.out ((((((Upd.refl [w.heap.size] wr).setCell (p := ⟨w.heap.size, 0, none⟩) (.inl (by simp)) x0).setCell (p := ⟨w.heap.size, 1, none⟩) (.inl (by simp)) x1).setCell (p := ⟨w.heap.size, 2, none⟩) (.inl (by simp)) x2).setCell (p := ⟨w.heap.size, 3, none⟩) (.inl (by simp)) x3)) (fun g hg hm => by have := own_base HO.out g hg; simp at hm; omega))
        have HUF := Lib.hid (fun (x0 x1 x2 x3 : Value) => (((((HU5.out.then HUR.out).setCell (p := ⟨w.heap.size, 0, none⟩) (.inr (Nat.le_refl _)) x0).setCell (p := ⟨w.heap.size, 1, none⟩) (.inr (Nat.le_refl _)) x1).setCell (p := ⟨w.heap.size, 2, none⟩) (.inr (Nat.le_refl _)) x2).setCell (p := ⟨w.heap.size, 3, none⟩) (.inr (Nat.le_refl _)) x3))
        clear hz2
        go_wp2
        have i0 : ∀ X : ByteArray, _ := fun X => (HZF.out.set 0 (.string X)).cell (j := 0) rfl
        have i1 : ∀ X : ByteArray, _ := fun X => ((HZF.out.set 0 (.string X)).set 1 (.int .i64 a)).cell (j := 1) rfl
        have i2 : ∀ X : ByteArray, _ := fun X => (((HZF.out.set 0 (.string X)).set 1 (.int .i64 a)).set 2 (.int .i64 b.step)).cell (j := 2) rfl
        have i3 : ∀ X : ByteArray, _ := fun X => ((((HZF.out.set 0 (.string X)).set 1 (.int .i64 a)).set 2 (.int .i64 b.step)).set 3 (.slice A2 q c2)).cell (j := 3) rfl
        refine bodyPost_ret (v := .tuple #[.agg #[.string .empty, .int .i64 a, .int .i64 b.step, .slice A2 q c2], .int .i64 0]) ?_ rfl ⟨_, rfl, ⟨.slice A2 q c2, rfl, ?_⟩, HUF.out _ _ _ _⟩
        · simp [results, Try.f24, go_sem, i0, i1, i2, i3]
        · have hfin := own_base_mono (HFIN.out (.string .empty) (.int .i64 a) (.int .i64 b.step) (.slice A2 q c2)) (show w.heap.size ≤ w6.heap.size + 1 by omega)
          simp only [List.length_map, List.length_range]
          exact hfin
end Go.Proofs.Ytdjpcinibgbglaa
