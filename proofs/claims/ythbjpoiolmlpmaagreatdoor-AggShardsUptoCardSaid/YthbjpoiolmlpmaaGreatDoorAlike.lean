/- tumblerref08.Alike, AllAlike: of what reads the same they say yes. -/
import Derived.Test.YthbjpoiolmlpmaaGreatDoorTC
import Derived.Test.YthbjpoiolmlpmaaGreatDoorKern
import Derived.Test.YthbjpoiolmlpmaaGreatDoorClone
set_option linter.unusedVariables false
set_option linter.unusedSimpArgs false
namespace Go.Proofs.YthbjpoiolmlpmaaGreatDoor
open Go.RowKit
abbrev Tally : Type := GT.den gTally

/-- A tally's cells read us d. -/
theorem tc_rd {w : World} {F : Nat → Prop} {cs : List Value} {d : Tally} (h : Rd w F gTally cs d) :
    ∃ t : TC, cs = t.cells ∧ t.k = d.1 ∧ t.n = d.2.1 ∧ t.c = d.2.2.1 ∧ t.sh = d.2.2.2.1.1 ∧ t.sl = d.2.2.2.1.2.1 ∧ t.wh = d.2.2.2.2.1.1 ∧ t.wl = d.2.2.2.2.1.2.1 ∧ t.sn = d.2.2.2.2.2.1.length ∧ t.mn = d.2.2.2.2.2.2.1.length ∧
      Rd w F gIs [.slice t.sa t.sn t.sc] d.2.2.2.2.2.1 ∧ Rd w F gSs [.slice t.ma t.mn t.mc] d.2.2.2.2.2.2.1 := by
  obtain ⟨k, n, c, ⟨sh, sl, u1⟩, ⟨wh, wl, u2⟩, ss, ms, u3⟩ := d
  obtain ⟨c1, r1, rfl, ⟨rfl, w1⟩, c2, r2, rfl, ⟨rfl, w2⟩, c3, r3, rfl, ⟨rfl, w3⟩, c4, r4, rfl, ⟨d1, e1, rfl, ⟨rfl, w4⟩, d2, e2, rfl, ⟨rfl, w5⟩, rfl⟩, c5, r5, rfl, ⟨d3, e3, rfl, ⟨rfl, w6⟩, d4, e4, rfl, ⟨rfl, w7⟩, rfl⟩, c6, r6, rfl, hs, c7, r7, rfl, hm, rfl⟩ := h
  obtain ⟨A, c, rfl, hs2⟩ := id hs
  obtain ⟨A', c', rfl, hm2⟩ := id hm
  exact ⟨⟨k, n, _, sh, sl, wh, wl, A, ss.length, c, A', ms.length, c'⟩, rfl, rfl, rfl, rfl, rfl, rfl, rfl, rfl, rfl, rfl, hs, hm⟩

set_option maxHeartbeats 2000000 in
theorem alike_calls (a b : TC) (ss : List Int) (ms : List ByteArray) (F G : Nat → Prop) (w : World) (hk : a.k = b.k) (hn : a.n = b.n) (hc : a.c = b.c) (h1 : a.sh = b.sh) (h2 : a.sl = b.sl) (h3 : a.wh = b.wh) (h4 : a.wl = b.wl)
    (ha : Rd w F gIs [.slice a.sa a.sn a.sc] ss) (hb : Rd w G gIs [.slice b.sa b.sn b.sc] ss) (ha' : Rd w F gSs [.slice a.ma a.mn a.mc] ms) (hb' : Rd w G gSs [.slice b.ma b.mn b.mc] ms) :
    Calls Tryz.prog 49 #[.agg a.cells.toArray, .agg b.cells.toArray] w fun e w' => e = .returned (.bool true) ∧ Upd [] w w' := by
  obtain ⟨k, n, c, sh, sl, wh, wl, A, p, q, A', p', q'⟩ := a
  obtain ⟨k2, n2, c2, sh2, sl2, wh2, wl2, B, r, s, B', r', s'⟩ := b
  simp only at hk hn hc h1 h2 h3 h4 ha hb ha' hb'
  subst hk; subst hn; subst hc; subst h1; subst h2; subst h3; subst h4
  simp only [TC.cells]
  obtain ⟨e1, i1, _⟩ := rd_cells ha
  obtain ⟨e2, i2, _⟩ := rd_cells hb
  obtain ⟨e3, i3, _⟩ := rd_cells ha'
  obtain ⟨e4, i4, _⟩ := rd_cells hb'
  have hm : ss.length ≤ maxLen := by have := (rd_cells ha).2.2.1; omega
  have hm' : ms.length ≤ maxLen := by have := (rd_cells ha').2.2.1; omega
  unfold maxLen at hm hm'
  subst e1; subst e2; subst e3; subst e4
  have HA := Lib.hid (rdI_news ha)
  have HB' := Lib.hid (rdI_news hb)
  have HC := Lib.hid (rdS_news ha')
  have HD := Lib.hid (rdS_news hb')
  clear ha hb ha' hb'
  go_enter Tryz.func49, Tryz.ntmps49
  go_wp2
  go_loopw [5] (fun i wr => ∃ m : Nat, m ≤ ss.length ∧ i = .int .i64 m ∧ HB wr w.heap.size 54 [.int .i64 k, .string n, .int .i64 c, .int .i64 sh, .int .u64 sl, .int .i64 wh, .int .u64 wl, .slice A ss.length q, .slice A' ms.length q'] ∧ HB wr (w.heap.size + 1) 54 [.int .i64 k, .string n, .int .i64 c, .int .i64 sh, .int .u64 sl, .int .i64 wh, .int .u64 wl, .slice B ss.length s, .slice B' ms.length s'] ∧ Upd [] w wr) (fun i _ => ss.length - (intOf i).toNat)
  case atStart => exact ⟨0, Nat.zero_le _, rfl, (HB.new w 54 [.int .i64 k, .string n, .int .i64 c, .int .i64 sh, .int .u64 sl, .int .i64 wh, .int .u64 wl, .slice A ss.length q, .slice A' ms.length q']).alloc _, HB.new1 w _ 54 [.int .i64 k, .string n, .int .i64 c, .int .i64 sh, .int .u64 sl, .int .i64 wh, .int .u64 wl, .slice B ss.length s, .slice B' ms.length s'], ((Upd.refl _ _).alloc _).alloc _⟩
  case round =>
    obtain ⟨m, hm, rfl, h1, h2, hU⟩ := hrel
    have g1 := h1.cell (j := 7) rfl
    have g2 := h2.cell (j := 7) rfl
    have g3 := h1.cell (j := 8) rfl
    have g4 := h2.cell (j := 8) rfl
    have K1 := Lib.hid h1
    have K2 := Lib.hid h2
    have KU := Lib.hid hU
    clear h1 h2 hU
    by_cases hlt : m < ss.length
    · obtain ⟨b1, o1, rfl, f1⟩ := HA.out m (.int .i64 ss[m]) (by rw [List.getElem?_map, List.getElem?_eq_getElem hlt]; rfl)
      obtain ⟨b2, o2, rfl, f2⟩ := HB'.out m (.int .i64 ss[m]) (by rw [List.getElem?_map, List.getElem?_eq_getElem hlt]; rfl)
      have f1' := KU.out.cell f1 (by simp)
      have f2' := KU.out.cell f2 (by simp)
      clear f1 f2
      generalize ss[m] = x at *
      go_wp2
      go_quiet (fail)
      go_wp2
      go_roundw
      case rel => exact ⟨m + 1, by omega, by go_num, K1.out, K2.out, KU.out.drewN _⟩
      case measure => simp [intOf]; omega
    · go_wp2
      go_loopw [6] (fun i wr => ∃ m : Nat, m ≤ ms.length ∧ i = .int .i64 m ∧ HB wr w.heap.size 54 [.int .i64 k, .string n, .int .i64 c, .int .i64 sh, .int .u64 sl, .int .i64 wh, .int .u64 wl, .slice A ss.length q, .slice A' ms.length q'] ∧ HB wr (w.heap.size + 1) 54 [.int .i64 k, .string n, .int .i64 c, .int .i64 sh, .int .u64 sl, .int .i64 wh, .int .u64 wl, .slice B ss.length s, .slice B' ms.length s'] ∧ Upd [] w wr) (fun i _ => ms.length - (intOf i).toNat)
      case atStart => exact ⟨0, Nat.zero_le _, rfl, K1.out, K2.out, KU.out⟩
      case round =>
        obtain ⟨m2, hm2, rfl, h1, h2, hU⟩ := hrel
        clear g1 g2 g3 g4
        have g3 := h1.cell (j := 8) rfl
        have g4 := h2.cell (j := 8) rfl
        have J1 := Lib.hid h1
        have J2 := Lib.hid h2
        have JU := Lib.hid hU
        clear h1 h2 hU
        by_cases hlt2 : m2 < ms.length
        · obtain ⟨b1, o1, rfl, f1⟩ := HC.out m2 (.string ms[m2]) (by rw [List.getElem?_map, List.getElem?_eq_getElem hlt2]; rfl)
          obtain ⟨b2, o2, rfl, f2⟩ := HD.out m2 (.string ms[m2]) (by rw [List.getElem?_map, List.getElem?_eq_getElem hlt2]; rfl)
          have f1' := JU.out.cell f1 (by simp)
          have f2' := JU.out.cell f2 (by simp)
          clear f1 f2
          generalize ms[m2] = x at *
          go_wp2
          go_quiet (fail)
          go_wp2
          go_roundw
          case rel => exact ⟨m2 + 1, by omega, by go_num, J1.out, J2.out, JU.out.drewN _⟩
          case measure => simp [intOf]; omega
        · go_wp2
          go_ret
          exact ⟨rfl, JU.out⟩

theorem TC.cells_inj {a b : TC} (h : a.cells = b.cells) : a = b := by
  obtain ⟨k, n, c, sh, sl, wh, wl, A, p, q, A', p', q'⟩ := a
  obtain ⟨k2, n2, c2, sh2, sl2, wh2, wl2, B, r, s, B', r', s'⟩ := b
  simp only [TC.cells, List.cons.injEq, Value.int.injEq, Value.string.injEq, Value.slice.injEq, true_and, and_true] at h
  obtain ⟨rfl, rfl, rfl, rfl, rfl, rfl, rfl, ⟨rfl, rfl, rfl⟩, rfl, rfl, rfl⟩ := h
  rfl
/-- A tally's cells read us d: field by field. -/
theorem tc_rd' {w : World} {F : Nat → Prop} {t : TC} {d : Tally} (h : Rd w F gTally t.cells d) :
    t.k = d.1 ∧ t.n = d.2.1 ∧ t.c = d.2.2.1 ∧ t.sh = d.2.2.2.1.1 ∧ t.sl = d.2.2.2.1.2.1 ∧ t.wh = d.2.2.2.2.1.1 ∧ t.wl = d.2.2.2.2.1.2.1 ∧ t.sn = d.2.2.2.2.2.1.length ∧ t.mn = d.2.2.2.2.2.2.1.length ∧
      Rd w F gIs [.slice t.sa t.sn t.sc] d.2.2.2.2.2.1 ∧ Rd w F gSs [.slice t.ma t.mn t.mc] d.2.2.2.2.2.2.1 := by
  obtain ⟨t', he, h⟩ := tc_rd h
  obtain rfl := TC.cells_inj he
  exact h
/-- A list of tallies reads us a list of data, one by one. -/
def TDs (w : World) (F : Nat → Prop) (us : List TC) (ds : List Tally) : Prop := us.length = ds.length ∧ ∀ (i : Nat) (a : TC) (d : Tally), us[i]? = some a → ds[i]? = some d → Rd w F gTally a.cells d
theorem TDs.upd0 {w w' : World} {F : Nat → Prop} {us : List TC} {ds : List Tally} (h : TDs w F us ds) (hU : Upd [] w w') : TDs w' F us ds := ⟨h.1, fun i a d h1 h2 => Rd.upd0 hU _ _ _ (h.2 i a d h1 h2)⟩

set_option maxHeartbeats 2000000 in
set_option maxRecDepth 20000 in
theorem allAlike_calls (va vb : Value) (us vs : List TC) (ds : List Tally) (F G : Nat → Prop) (w : World) (ha : RowK w F TC.cells 9 va us) (hb : RowK w G TC.cells 9 vb vs) (hda : TDs w F us ds) (hdb : TDs w G vs ds) :
    Calls Tryz.prog 33 #[va, vb] w fun e w' => e = .returned (.bool true) ∧ Upd [] w w' := by
  obtain ⟨A, c, rfl, hlc, hcm, _⟩ := ha.shape
  obtain ⟨B, c', rfl, hlc', hcm', _⟩ := hb.shape
  obtain ⟨n, hn⟩ : ∃ n, n = ds.length := ⟨_, rfl⟩
  have hm : n ≤ 9223372036854775807 := by have := hda.1; unfold maxLen at hcm; omega
  have e1 : us.length = n := hda.1.trans hn.symm
  have e2 : vs.length = n := hdb.1.trans hn.symm
  have E1 := Lib.hid e1
  have E2 := Lib.hid e2
  rw [e1] at hlc ⊢
  rw [e2] at hlc' ⊢
  have E3 := Lib.hid hn
  have HA := Lib.hid ha
  have HB' := Lib.hid hb
  have HDA := Lib.hid hda
  have HDB := Lib.hid hdb
  clear ha hb hda hdb e1 e2 hn
  go_enter Tryz.func33, Tryz.ntmps33
  go_wp2
  go_loopw [5] (fun i wr => ∃ m : Nat, m ≤ n ∧ i = .int .i64 m ∧ Upd [] w wr) (fun i _ => n - (intOf i).toNat)
  case atStart => exact ⟨0, Nat.zero_le _, rfl, Upd.refl _ _⟩
  case round =>
    obtain ⟨m, hmn, rfl, hU⟩ := hrel
    have KU := Lib.hid hU
    clear hU
    by_cases hlt : m < n
    · obtain ⟨a, hxa⟩ : ∃ a, us[m]? = some a := ⟨us[m]'(by have := E1.out; omega), List.getElem?_eq_getElem _⟩
      obtain ⟨b, hxb⟩ : ∃ b, vs[m]? = some b := ⟨vs[m]'(by have := E2.out; omega), List.getElem?_eq_getElem _⟩
      obtain ⟨d, hxd⟩ : ∃ d, ds[m]? = some d := ⟨ds[m]'(by have := E3.out; omega), List.getElem?_eq_getElem _⟩
      obtain ⟨b1, o1, rfl, _, f1⟩ := HA.out.at_ hxa
      obtain ⟨b2, o2, rfl, _, f2⟩ := HB'.out.at_ hxb
      have F1 := Lib.hid f1
      have F2 := Lib.hid f2
      have R1 := tc_rd' (HDA.out.2 m a d hxa hxd)
      have R2 := tc_rd' (HDB.out.2 m b d hxb hxd)
      have hcall := fun (W : World) (hW : Upd [] w W) => alike_calls a b _ _ F G W (R1.1.trans R2.1.symm) (R1.2.1.trans R2.2.1.symm) (R1.2.2.1.trans R2.2.2.1.symm) (R1.2.2.2.1.trans R2.2.2.2.1.symm) (R1.2.2.2.2.1.trans R2.2.2.2.2.1.symm) (R1.2.2.2.2.2.1.trans R2.2.2.2.2.2.1.symm) (R1.2.2.2.2.2.2.1.trans R2.2.2.2.2.2.2.1.symm)
        (Rd.upd0 hW _ _ _ R1.2.2.2.2.2.2.2.2.2.1) (Rd.upd0 hW _ _ _ R2.2.2.2.2.2.2.2.2.2.1) (Rd.upd0 hW _ _ _ R1.2.2.2.2.2.2.2.2.2.2) (Rd.upd0 hW _ _ _ R2.2.2.2.2.2.2.2.2.2.2)
      have HC := Lib.hid hcall
      clear f1 f2 R1 R2 hcall hxa hxb hxd
      obtain ⟨x0, x1, x2, x3, x4, x5, x6, x7, x8⟩ : _ ∧ _ ∧ _ ∧ _ ∧ _ ∧ _ ∧ _ ∧ _ ∧ _ := ⟨KU.out.cell (F1.out 0 _ rfl) (by simp), KU.out.cell (F1.out 1 _ rfl) (by simp), KU.out.cell (F1.out 2 _ rfl) (by simp), KU.out.cell (F1.out 3 _ rfl) (by simp), KU.out.cell (F1.out 4 _ rfl) (by simp), KU.out.cell (F1.out 5 _ rfl) (by simp), KU.out.cell (F1.out 6 _ rfl) (by simp), KU.out.cell (F1.out 7 _ rfl) (by simp), KU.out.cell (F1.out 8 _ rfl) (by simp)⟩
      rw [Nat.add_zero] at x0
      obtain ⟨y0, y1, y2, y3, y4, y5, y6, y7, y8⟩ : _ ∧ _ ∧ _ ∧ _ ∧ _ ∧ _ ∧ _ ∧ _ ∧ _ := ⟨KU.out.cell (F2.out 0 _ rfl) (by simp), KU.out.cell (F2.out 1 _ rfl) (by simp), KU.out.cell (F2.out 2 _ rfl) (by simp), KU.out.cell (F2.out 3 _ rfl) (by simp), KU.out.cell (F2.out 4 _ rfl) (by simp), KU.out.cell (F2.out 5 _ rfl) (by simp), KU.out.cell (F2.out 6 _ rfl) (by simp), KU.out.cell (F2.out 7 _ rfl) (by simp), KU.out.cell (F2.out 8 _ rfl) (by simp)⟩
      rw [Nat.add_zero] at y0
      go_wp2
      refine still_tail 8 (by kernel_rfl) (by kernel_rfl) ?_
      simp only [List.take_succ_cons, List.take_zero, List.drop_succ_cons, List.drop_zero]
      repeat still_step
      refine wpStill_nil ?_
      go_wp2_with fail
      refine (HC.out _ (by exact KU.out.drew)).mono ?_
      rintro e w2 ⟨rfl, hg⟩
      have hU2 := Lib.hid (KU.out.drew.then hg)
      clear hg x0 x1 x2 x3 x4 x5 x6 x7 x8 y0 y1 y2 y3 y4 y5 y6 y7 y8
      go_wp2
      go_roundw
      case rel => exact ⟨m + 1, by omega, by go_num, hU2.out⟩
      case measure => simp [intOf]; omega
    · go_wp2
      go_ret
      exact ⟨rfl, KU.out⟩
end Go.Proofs.YthbjpoiolmlpmaaGreatDoor
