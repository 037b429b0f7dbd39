/- AggOwn: new memory. -/
import Derived.Test.YthbjpoiolmlpmaaGreatDoorAgOwn
set_option linter.unusedVariables false
set_option linter.unusedSimpArgs false
namespace Go.Proofs.YthbjpoiolmlpmaaGreatDoor
open Go.RowKit
theorem infoSt : (Tryz.prog.info? 9).map (fun i => (i.zero, i.size, i.bytes)) = some (some (.string .empty), 1, 16) := by kernel_rfl
theorem rep_set {α : Type} (p : Nat) (x : α) (xs : List α) (hp : p < xs.length) : (List.replicate p x ++ xs.drop p).set p x = List.replicate (p + 1) x ++ xs.drop (p + 1) := by
  rw [List.set_append_right _ _ (by simp), List.length_replicate, Nat.sub_self, List.drop_eq_getElem_cons hp, List.set_cons_zero, List.replicate_succ', List.append_assoc]
  rfl
theorem rep_len {α : Type} (p : Nat) (x : α) (xs : List α) (hp : p ≤ xs.length) : (List.replicate p x ++ xs.drop p).length = xs.length := by
  rw [List.length_append, List.length_replicate, List.length_drop]
  omega
set_option maxHeartbeats 8000000 in
set_option maxRecDepth 200000 in
theorem own_calls (rows : List KE) (v : Value) (F : Nat → Prop) (w : World) (hR : RowK w F rowC 9 v rows) (hF : ∀ b, F b → b < w.heap.size) (hok : okRows rows) (hM : MaxL w) :
    Calls Tryz.prog 6 #[v] w fun e w' => e = .returned (.bool true) ∧ Upd [] w w' := by
  have HR := Lib.hid hR
  have HF := Lib.hid hF
  have HOK := Lib.hid hok
  have hrl := hok.1
  have HTO := Lib.hid (fun (W : World) (hU : Upd [] w W) => told_calls rows v F W (hR.upd0 hU) (fun b hb => Nat.lt_of_lt_of_le (hF b hb) hU.size) hok (hM.upd0 hU))
  clear hR hF hok
  go_enter Tryz.func6, Tryz.ntmps6
  go_wp2_with fail
  refine (HTO.out w (Upd.refl [] w)).mono ?_
  rintro e w1 ⟨va, cw, A1, rfl, hC, hW, hU⟩
  obtain ⟨Ax, cx, rfl, hcw, hcx, _⟩ := own_shape hW.row
  have hcw : cw.length ≤ 9223372036854775807 := by unfold maxLen at hcx; omega
  have HC := Lib.hid hC
  have HW := Lib.hid hW
  have HU := Lib.hid hU
  clear hC hW hU hcx
  go_wp2_with fail
  refine (HTO.out w1 HU.out).mono ?_
  rintro e w2 ⟨vb, dw, A2, rfl, hC2, hW2, hU2⟩
  obtain ⟨Ay, cy, rfl, _, _, _⟩ := own_shape hW2.row
  have hpl := (HC.out.unique hC2).1
  have HPL := Lib.hid hpl
  have HX2 := Lib.hid (HW.out.upd hU2 (by simp) (by simp))
  have HY2 := Lib.hid hW2
  have HU2 := Lib.hid (HU.out.then hU2)
  have HWF := Lib.hid ((runE_ok rows).wf_close hrl HC.out)
  have HLE := Lib.hid (show ∀ c ∈ cw, ∀ u ∈ c.us, u.2.smp.length ≤ 1048576 ∧ u.2.mem.length ≤ 1048576 from fun c hc u hu => by
    obtain ⟨g, hT⟩ := runE_told HC.out c.pl (List.mem_map_of_mem hc)
    have h1 := told_lens acc_ok hT (t := u.2) (List.mem_map_of_mem hu)
    have h2 := List.length_filter_le accB rows
    omega)
  have HAW := Lib.hid (awake_calls w2 (hM.upd0 HU2.out) (by have := HU2.out.size; have := hM.pos; omega))
  clear hC2 hW2 hU2 hpl
  go_wp2_with fail
  refine HAW.out.mono ?_
  rintro e w3 ⟨rfl, hU3⟩
  have HX3 := Lib.hid (HX2.out.upd hU3 (by simp) (by simp))
  have HY3 := Lib.hid (HY2.out.upd hU3 (by simp) (by simp))
  have HU3 := Lib.hid (HU2.out.then hU3)
  have HSW := Lib.hid (sameW_calls HX3.out HY3.out HPL.out HWF.out (Nat.le_refl _) (Nat.le_refl _))
  clear hU3 HAW
  go_wp2_with fail
  refine HSW.out.mono ?_
  rintro e w4 ⟨rfl, hU4⟩
  have HX4 := Lib.hid (HX3.out.upd hU4 (by simp) (by simp))
  have HY4 := Lib.hid (HY3.out.upd hU4 (by simp) (by simp))
  have HU4 := Lib.hid (HU3.out.then hU4)
  have HN1 := Lib.hid HU.out.size
  have HO4 := Lib.hid (show OwnAt w.heap.size w1.heap.size (.slice Ax cw.length cx) cw w4 w4 0 0 cw from ⟨HX4.out, OwnR.refl cw, fun b hb => .inl (by
    obtain ⟨d, hd, hb⟩ := List.mem_flatMap.1 hb
    exact ((HW.out.wins d hd).lt (Nat.le_refl _) b hb).2), UpdP.of0 (Upd.refl [] w4)⟩)
  clear hU4 HSW HX2 HX3 HY2 HY3 HX4
  go_wp2_with fail
  go_loopw [45] (fun i wr => ∃ q : Nat, q ≤ cw.length ∧ i = .int .i64 q ∧ ∃ cw', OwnAt w.heap.size w1.heap.size (.slice Ax cw.length cx) cw w4 wr q 0 cw') (fun i _ => cw.length - (intOf i).toNat)
  case atStart => exact ⟨0, Nat.zero_le _, rfl, cw, HO4.out.lift (by repeat (first | exact Upd.refl _ _ | assumption | apply Upd.drewN | apply Upd.drew | apply Upd.alloc))⟩
  case round =>
    obtain ⟨q, hq, rfl, cw1, ho⟩ := hrel
    have HO := Lib.hid ho
    clear ho
    by_cases hlt : q < cw.length
    · obtain ⟨c, hc⟩ : ∃ c, cw[q]? = some c := ⟨cw[q], List.getElem?_eq_getElem hlt⟩
      obtain ⟨c1, hc1, hl1, _⟩ := HO.out.rel.at_ q c hc
      obtain ⟨b, m, e, _, ⟨x0, x1⟩, _, hus, A1', m1, eT⟩ := HO.out.ws.at_ hc1
      injection e with e1 e2 e3
      subst e1 e3
      rw [hl1] at eT hus
      rw [eT] at x1
      have HCC := Lib.hid hc
      clear hc hc1 hl1 e2 eT
      go_wp2_with fail
      clear x0 x1
      generalize wr = wo at *
      go_loopw [54] (fun k wr => ∃ r : Nat, r ≤ c.us.length ∧ k = .int .i64 r ∧ ∃ cw', OwnAt w.heap.size w1.heap.size (.slice (some ⟨b, 0, none⟩) cw.length cx) cw w4 wr q r cw') (fun k _ => c.us.length - (intOf k).toNat)
      case atStart => exact ⟨0, Nat.zero_le _, rfl, cw1, HO.out.lift (by repeat (first | exact Upd.refl _ _ | assumption | apply Upd.drewN | apply Upd.drew | apply Upd.alloc))⟩
      case round =>
        obtain ⟨r, hr, rfl, cw2, ho⟩ := hrel
        have HO2 := Lib.hid ho
        clear ho
        by_cases hlt2 : r < c.us.length
        · obtain ⟨u, hu⟩ : ∃ u, c.us[r]? = some u := ⟨c.us[r], List.getElem?_eq_getElem hlt2⟩
          obtain ⟨c2, hc2, hl2, hua⟩ := HO2.out.rel.at_ q c HCC.out
          obtain ⟨u2, hu2, hkp⟩ := hua r u hu
          clear hua
          rw [if_neg (by omega)] at hkp
          obtain ⟨b', m', e, _, ⟨x0, x1⟩, hwin, hus2, A2', m2, eT⟩ := HO2.out.ws.at_ hc2
          injection e with e1 e2 e3
          injection e1 with e1
          injection e1 with e1
          subst e1 e3
          obtain ⟨id, tv, us⟩ := c2
          dsimp only at eT x0 x1 hl2 hu2
          subst eT
          obtain ⟨b2, m3, SA0, SC0, MA0, MC0, e, _, _, _, _⟩ := WinAt.at_ hwin hu2
          have HTV := Lib.hid e
          have hT := TInv.start HO2.out hc2 hu2
          have HFI := Lib.hid (fun (wr' : World) (xs : List Int) (ms : List ByteArray) (SA : Option Addr) (SC : Nat) (MA : Option Addr) (MC : Nat) ht hd => TInv.fin (wr := wr') (xs := xs) (ms := ms) (SA := SA) (SC := SC) (MA := MA) (MC := MC) HO2.out HN1.out HCC.out hu hc2 hu2 ht hd)
          dsimp only at hT HFI
          have hlb := HLE.out c (List.mem_of_getElem? HCC.out) u (List.mem_of_getElem? hu)
          obtain ⟨hk1, hk2⟩ := hkp
          obtain ⟨sb, hsb⟩ : ∃ sb, sb = u2.1.sv.ownBlock.toList := ⟨_, rfl⟩
          obtain ⟨mb, hmb⟩ : ∃ mb, mb = u2.1.mv.ownBlock.toList := ⟨_, rfl⟩
          rw [← hsb, ← hmb] at hT HFI
          obtain ⟨tcs, htc⟩ : ∃ tcs, tcs = us.map (·.1) := ⟨_, rfl⟩
          rw [← htc] at hT HFI
          generalize u2.2 = l2 at *
          obtain ⟨xs0, hxs⟩ : ∃ xs0, xs0 = l2.smp := ⟨_, rfl⟩
          obtain ⟨ms0, hms⟩ : ∃ ms0, ms0 = l2.mem := ⟨_, rfl⟩
          rw [← hxs, ← hms] at hT
          rw [← hxs] at hk1
          rw [← hms] at hk2
          have hln : xs0.length ≤ 1048576 ∧ ms0.length ≤ 1048576 := by omega
          obtain ⟨SA, SC, MA, MC, hT⟩ := hT
          have HT := Lib.hid hT
          have HFIN := Lib.hid (show ∀ (wr' : World) (SA : Option Addr) (SC : Nat) (MA : Option Addr) (MC : Nat), TInv wr w.heap.size (.slice A2' us.length m2) tcs r l2 sb mb wr' (List.replicate xs0.length (-1) ++ List.replicate 16 (-2)) (List.replicate ms0.length ⟨#[63]⟩ ++ List.replicate 16 ⟨#[33]⟩) SA SC MA MC → ∃ cw2, OwnAt w.heap.size w1.heap.size (.slice (some ⟨b, 0, none⟩) cw.length cx) cw w4 wr' q (r + 1) cw2 from fun wr' SA SC MA MC ht => HFI.out wr' _ _ SA SC MA MC ht ⟨by show _ = _; rw [← hk1]; rfl, by show _ = _; rw [← hk2]; rfl⟩)
          have hv7 := hT.cell HTV.out 7 _ rfl
          have hv8 := hT.cell HTV.out 8 _ rfl
          simp only [tcX] at hv7 hv8
          have hlu : us.length = c.us.length := hl2
          injection e with e4 e5 e6
          subst e4 e6
          rw [hlu] at x1
          clear hc2 hu2 hwin hT e2 e5 hk1 hk2 hxs hms hsb hmb htc hu HFI hlb
          go_wp2_with fail
          clear x0 x1 hv7 hv8
          generalize wr = wp at *
          obtain ⟨hln1, hln2⟩ := hln
          go_loopw [69] (fun j wr => ∃ p : Nat, p ≤ xs0.length ∧ j = .int .i64 p ∧ TInv wp w.heap.size (.slice (some ⟨b2, 0, none⟩) us.length m2) tcs r l2 sb mb wr (List.replicate p (-1) ++ xs0.drop p) ms0 SA SC MA MC) (fun j _ => xs0.length - (intOf j).toNat)
          case atStart =>
            refine ⟨0, Nat.zero_le _, rfl, ?_⟩
            rw [show List.replicate 0 (-1) ++ xs0.drop 0 = xs0 from rfl]
            exact HT.out.lift (by repeat (first | exact Upd.refl _ _ | assumption | apply Upd.drewN | apply Upd.drew | apply Upd.alloc))
          case round =>
            obtain ⟨p, hp, rfl, ht⟩ := hrel
            by_cases hlt3 : p < xs0.length
            · obtain ⟨g, eA, cp⟩ := own_int ht.smp (p := p) (x := xs0[p]) (by rw [List.getElem?_append_right (by simp), List.length_replicate, Nat.sub_self, List.getElem?_drop, Nat.add_zero]; exact List.getElem?_eq_getElem hlt3)
              subst eA
              have hrp := rep_len p (-1) xs0 hp
              have v7 := ht.cell rfl 7 _ rfl
              have fp := own_free ht.smp p
              have HSS := Lib.hid (ht.setS p (-1) (by rw [hrp]; exact hlt3))
              rw [rep_set p (-1) xs0 hlt3] at HSS
              simp only [tcX, hrp] at v7
              clear ht hrp
              go_wp2_with fail
              go_roundw
              case rel => exact ⟨p + 1, by omega, by go_num, HSS.out⟩
              case measure => simp [intOf]; omega
            · obtain rfl : p = xs0.length := by omega
              rw [List.drop_length, List.append_nil] at ht
              have HT3 := Lib.hid ht
              have v8 := ht.cell rfl 8 _ rfl
              simp only [tcX] at v8
              clear ht
              go_wp2_with fail
              clear v8
              go_loopw [84] (fun j wr => ∃ p : Nat, p ≤ ms0.length ∧ j = .int .i64 p ∧ TInv wp w.heap.size (.slice (some ⟨b2, 0, none⟩) us.length m2) tcs r l2 sb mb wr (List.replicate xs0.length (-1)) (List.replicate p ⟨#[63]⟩ ++ ms0.drop p) SA SC MA MC) (fun j _ => ms0.length - (intOf j).toNat)
              case atStart =>
                refine ⟨0, Nat.zero_le _, rfl, ?_⟩
                rw [show List.replicate 0 (⟨#[63]⟩ : ByteArray) ++ ms0.drop 0 = ms0 from rfl]
                exact HT3.out.lift (by repeat (first | exact Upd.refl _ _ | assumption | apply Upd.drewN | apply Upd.drew | apply Upd.alloc))
              case round =>
                obtain ⟨p, hp, rfl, ht⟩ := hrel
                by_cases hlt4 : p < ms0.length
                · obtain ⟨g, eA, cp⟩ := own_str ht.mem (p := p) (x := ms0[p]) (by rw [List.getElem?_append_right (by simp), List.length_replicate, Nat.sub_self, List.getElem?_drop, Nat.add_zero]; exact List.getElem?_eq_getElem hlt4)
                  subst eA
                  have hrp := rep_len p ⟨#[63]⟩ ms0 hp
                  have v8 := ht.cell rfl 8 _ rfl
                  have fp := own_free ht.mem p
                  have HSS := Lib.hid (ht.setM p ⟨#[63]⟩ (by rw [hrp]; exact hlt4))
                  rw [rep_set p ⟨#[63]⟩ ms0 hlt4] at HSS
                  simp only [tcX, hrp] at v8
                  clear ht hrp
                  go_wp2_with fail
                  go_roundw
                  case rel => exact ⟨p + 1, by omega, by go_num, HSS.out⟩
                  case measure => simp [intOf]; omega
                · obtain rfl : p = ms0.length := by omega
                  rw [List.drop_length, List.append_nil] at ht
                  have HT4 := Lib.hid ht
                  clear ht
                  go_wp2_with fail
                  go_loopw [12] (fun j wr => ∃ p : Nat, p ≤ 16 ∧ j = .int .i64 p ∧ ∃ SA SC MA MC, TInv wp w.heap.size (.slice (some ⟨b2, 0, none⟩) us.length m2) tcs r l2 sb mb wr (List.replicate xs0.length (-1) ++ List.replicate p (-2)) (List.replicate ms0.length ⟨#[63]⟩ ++ List.replicate p ⟨#[33]⟩) SA SC MA MC) (fun j _ => 16 - (intOf j).toNat)
                  case atStart =>
                    refine ⟨0, by omega, rfl, SA, SC, MA, MC, ?_⟩
                    rw [show List.replicate xs0.length (-1 : Int) ++ List.replicate 0 (-2) = List.replicate xs0.length (-1) from List.append_nil _, show List.replicate ms0.length (⟨#[63]⟩ : ByteArray) ++ List.replicate 0 ⟨#[33]⟩ = List.replicate ms0.length ⟨#[63]⟩ from List.append_nil _]
                    exact HT4.out.lift (by repeat (first | exact Upd.refl _ _ | assumption | apply Upd.drewN | apply Upd.drew | apply Upd.alloc))
                  case round =>
                    obtain ⟨p, hp, rfl, SB, SD, MB, MD, ht⟩ := hrel
                    by_cases hlt5 : p < 16
                    · obtain ⟨X, hX⟩ : ∃ X : List Int, X = List.replicate xs0.length (-1) ++ List.replicate p (-2) := ⟨_, rfl⟩
                      obtain ⟨Y, hY⟩ : ∃ Y : List ByteArray, Y = List.replicate ms0.length ⟨#[63]⟩ ++ List.replicate p ⟨#[33]⟩ := ⟨_, rfl⟩
                      rw [← hX, ← hY] at ht
                      have hXl : X.length ≤ 1048592 := by rw [hX]; simp; omega
                      have hYl : Y.length ≤ 1048592 := by rw [hY]; simp; omega
                      have HXN := Lib.hid (show X ++ [-2] = List.replicate xs0.length (-1) ++ List.replicate (p + 1) (-2) by rw [hX, List.append_assoc, List.replicate_succ'])
                      have HYN := Lib.hid (show Y ++ [⟨#[33]⟩] = List.replicate ms0.length ⟨#[63]⟩ ++ List.replicate (p + 1) ⟨#[33]⟩ by rw [hY, List.append_assoc, List.replicate_succ'])
                      have v7 := ht.cell rfl 7 _ rfl
                      simp only [tcX] at v7
                      have hal := (Upd.refl [] wr).alloc (.cells #[.int .i64 (-2)] 2)
                      have HT5 := Lib.hid (ht.lift hal)
                      have HWPS := Lib.hid ht.up.size
                      have HNB := Lib.hid (HB.new wr 2 [.int .i64 (-2)])
                      have HSB := Lib.hid (show w.heap.size ≤ (wr.alloc (.cells #[.int .i64 (-2)] 2)).heap.size from by have h1 := HU4.out.size; have h2 := HO2.out.up.size; have h3 := ht.up.size; have h4 := hal.size; omega)
                      clear hX hY ht hal
                      go_wp2_with (at_builtin; go_must (refine wp_append1 w.heap.size 51 2 _ 1 8 (.slice SB X.length SD) X.length (X.map (Value.int .i64)) [.int .i64 (-2)] _ rfl rfl (by kernel_rfl) infoI rfl (by decide) (by decide) rfl rfl rfl (by simp [Value.oneCell']) HT5.out.smp HNB.out HSB.out (by omega) ?_))
                      intro v1 w6 hown6 hU7 hat6
                      obtain ⟨A6, c6, rfl, _, _, _⟩ := own_shape hown6
                      have n1 := own_ne2 HT5.out.smp HT5.out.row (by decide)
                      have hb2 : b2 ∉ (Value.slice SB X.length SD).ownBlock.toList := n1 b2 rfl
                      have c7 := hU7.cell (HT5.out.cell rfl 7 _ rfl) hb2
                      have f7 : w6.frozen? ⟨b2, r * 9 + 7, none⟩ = false := (hU7.frozen (own_lt HT5.out.row b2 rfl) hb2).trans (HT5.out.free rfl (r * 9 + 7))
                      have HT6 := Lib.hid (HT5.out.appS rfl (-2) hown6 hU7 (hat6.imp (fun h => h) (fun ⟨y, h1, h2⟩ => ⟨y, h1, by have := HWPS.out; omega⟩)))
                      obtain ⟨W8, hW8⟩ : ∃ W8, W8 = w6.setCell ⟨b2, r * 9 + 7, none⟩ (.slice A6 (X.length + 1) c6) := ⟨_, rfl⟩
                      rw [← hW8] at HT6
                      simp only [tcX] at c7
                      clear hown6 hU7 hat6 n1 hb2 HT5 HNB HSB
                      go_upto_region 26 with fail
                      rw [← hW8]
                      clear hW8 c7 f7 v7
                      have v8 := HT6.out.cell rfl 8 _ rfl
                      simp only [tcX] at v8
                      have hal := (Upd.refl [] W8).alloc (.cells #[.string ⟨#[33]⟩] 9)
                      have HT7 := Lib.hid (HT6.out.lift hal)
                      have HNB := Lib.hid (HB.new W8 9 [.string ⟨#[33]⟩])
                      have HSB := Lib.hid (show w.heap.size ≤ (W8.alloc (.cells #[.string ⟨#[33]⟩] 9)).heap.size from by have h1 := HU4.out.size; have h2 := HO2.out.up.size; have h3 := HT6.out.up.size; have h4 := hal.size; omega)
                      clear hal
                      go_wp2_with (at_builtin; go_must (refine wp_append1 w.heap.size 52 9 _ 1 16 (.slice MB Y.length MD) Y.length (Y.map Value.string) [.string ⟨#[33]⟩] _ rfl rfl (by kernel_rfl) infoSt rfl (by decide) (by decide) rfl rfl rfl (by simp [Value.oneCell']) HT7.out.mem HNB.out HSB.out (by omega) ?_))
                      intro v2 w9 hown9 hU9 hat9
                      obtain ⟨A9, c9, rfl, _, _, _⟩ := own_shape hown9
                      have n1 := own_ne2 HT7.out.mem HT7.out.row (by decide)
                      have hb2 : b2 ∉ (Value.slice MB Y.length MD).ownBlock.toList := n1 b2 rfl
                      have c8 := hU9.cell (HT7.out.cell rfl 8 _ rfl) hb2
                      have f8 : w9.frozen? ⟨b2, r * 9 + 8, none⟩ = false := (hU9.frozen (own_lt HT7.out.row b2 rfl) hb2).trans (HT7.out.free rfl (r * 9 + 8))
                      have HT9 := Lib.hid (HT7.out.appM rfl ⟨#[33]⟩ hown9 hU9 (hat9.imp (fun h => h) (fun ⟨y, h1, h2⟩ => ⟨y, h1, by have := HT6.out.up.size; omega⟩)))
                      simp only [tcX] at c8
                      clear hown9 hU9 hat9 n1 hb2 HT7 HNB HSB
                      go_wp2_with fail
                      go_roundw
                      case rel => exact ⟨p + 1, by omega, by go_num, A6, c6, A9, c9, by rw [← HXN.out, ← HYN.out]; exact HT9.out⟩
                      case measure => simp [intOf]; omega
                    · obtain rfl : p = 16 := by omega
                      have HE := Lib.hid (HFIN.out wr SB SD MB MD ht)
                      clear ht
                      go_wp2_with fail
                      go_roundw
                      case rel =>
                        obtain ⟨cw3, h3⟩ := HE.out
                        exact ⟨r + 1, by omega, by go_num, cw3, h3.lift (by repeat (first | exact Upd.refl _ _ | assumption | apply Upd.drewN | apply Upd.drew | apply Upd.alloc))⟩
                      case measure => simp [intOf]; omega
        · go_wp2_with fail
          go_roundw
          case rel => 
            obtain rfl : r = c.us.length := by omega
            exact ⟨q + 1, by omega, by go_num, cw2, ⟨HO2.out.ws, OwnR.next HCC.out HO2.out.rel, HO2.out.bl, HO2.out.up⟩⟩
          case measure => simp [intOf]; omega
    · obtain rfl : q = cw.length := by omega
      have HWX := Lib.hid HO.out.ws
      have HRL := Lib.hid HO.out.rel
      have HY5 := Lib.hid (show WinsAt wr w1.heap.size w1.heap.size (.slice Ay dw.length cy) dw from by
        obtain ⟨S, j1, j2⟩ := HO.out.up
        refine HY4.out.upd j1 (fun g hg hm => ?_) (fun g hg hm => ?_)
        · have h1 := (HY4.out.row.lt g hg).1
          have h2 := (j2 g hm).2
          omega
        · obtain ⟨d, hd, hb⟩ := List.mem_flatMap.1 hg
          have h1 := ((HY4.out.wins d hd).lt (Nat.le_refl _) g hb).1
          have h2 := (j2 g hm).2
          omega)
      have HUZ := Lib.hid (HO.out.up.low HU4.out (fun b hb => hb.1))
      go_wp2_with fail
      generalize wr = wz at *
      go_loopw [120] (fun i wr => ∃ q : Nat, q ≤ cw.length ∧ i = .int .i64 q ∧ Upd [] wz wr) (fun i _ => cw.length - (intOf i).toNat)
      case atStart => exact ⟨0, Nat.zero_le _, rfl, by repeat (first | exact Upd.refl _ _ | assumption | apply Upd.drewN | apply Upd.drew | apply Upd.alloc)⟩
      case round =>
        obtain ⟨q, hq, rfl, hU⟩ := hrel
        have HUq := Lib.hid hU
        clear hU
        by_cases hlt : q < cw.length
        · obtain ⟨c, hc⟩ : ∃ c, cw[q]? = some c := ⟨cw[q], List.getElem?_eq_getElem hlt⟩
          obtain ⟨c', hc', hl1, hua⟩ := HRL.out.at_ q c hc
          obtain ⟨d, hd, hdc⟩ : ∃ d, dw[q]? = some d ∧ c.pl = d.pl := by
            have h1 : (cw.map WCL.pl)[q]? = some c.pl := by rw [List.getElem?_map, hc]; rfl
            rw [HPL.out, List.getElem?_map] at h1
            cases h2 : dw[q]? with
            | none => rw [h2] at h1; cases h1
            | some d => rw [h2] at h1; exact ⟨d, rfl, (Option.some.inj h1).symm⟩
          have hdt : c.us.map (·.2) = d.us.map (·.2) := congrArg Prod.snd hdc
          have hdl : d.us.length = c.us.length := by have := congrArg List.length hdt; simpa using this.symm
          obtain ⟨bx, mx, e, hbx, ⟨x0, x1⟩, hwx, hus, A1', m1, eT⟩ := (HWX.out.upd HUq.out (by simp) (by simp)).at_ hc'
          injection e with e1 e2 e3
          subst e1 e3
          rw [hl1] at eT hus
          rw [eT] at x1
          have HC' := Lib.hid hc'
          have HD := Lib.hid hd
          have HDT := Lib.hid hdt
          have HDL := Lib.hid hdl
          have HUA := Lib.hid hua
          have HET := Lib.hid eT
          have HL1 := Lib.hid hl1
          have HLC := Lib.hid (HLE.out c (List.mem_of_getElem? hc))
          have HDN := Lib.hid (show q < dw.length from (List.getElem?_eq_some_iff.1 hd).1)
          clear hc hc' hd hdt hdl hua eT hl1 e2 hwx hdc
          go_wp2_with fail
          clear x0 x1
          generalize wr = wo at *
          go_loopw [129] (fun k wr => ∃ r : Nat, r ≤ c.us.length ∧ k = .int .i64 r ∧ Upd [] wz wr) (fun k _ => c.us.length - (intOf k).toNat)
          case atStart => exact ⟨0, Nat.zero_le _, rfl, HUq.out.then (by repeat (first | exact Upd.refl _ _ | assumption | apply Upd.drewN | apply Upd.drew | apply Upd.alloc))⟩
          case round =>
            obtain ⟨r, hr, rfl, hU⟩ := hrel
            have HUr := Lib.hid hU
            clear hU
            by_cases hlt2 : r < c.us.length
            · obtain ⟨u, hu⟩ : ∃ u, c.us[r]? = some u := ⟨c.us[r], List.getElem?_eq_getElem hlt2⟩
              obtain ⟨u', hu', hdn⟩ := HUA.out r u hu
              rw [if_pos (by omega)] at hdn
              obtain ⟨s, hs, hsu⟩ : ∃ s, d.us[r]? = some s ∧ s.2 = u.2 := by
                have h1 : (c.us.map (·.2))[r]? = some u.2 := by rw [List.getElem?_map, hu]; rfl
                rw [HDT.out, List.getElem?_map] at h1
                cases h2 : d.us[r]? with
                | none => rw [h2] at h1; cases h1
                | some s => rw [h2] at h1; exact ⟨s, rfl, Option.some.inj h1⟩
              obtain ⟨b1, n1, e, _, ⟨x0, x1⟩, hwx, _, A1, m3, eT1⟩ := (HWX.out.upd HUr.out (by simp) (by simp)).at_ HC'.out
              injection e with e1 e2 e3
              injection e1 with e1
              injection e1 with e1
              subst e1
              obtain ⟨b3, n3, e, _, ⟨y0, y1⟩, hwy, _, A3, m4, eT2⟩ := (HY5.out.upd HUr.out (by simp) (by simp)).at_ HD.out
              injection e with e4 e5 e6
              subst e4 e6
              obtain ⟨id, tv, us⟩ := c'
              obtain ⟨id2, tv2, us2⟩ := d
              have hxu := HL1.out
              have hyu := HDL.out
              dsimp only at eT1 eT2 x0 x1 y0 y1 hu' hs hxu hyu
              rw [hxu] at eT1
              rw [hyu] at eT2
              obtain ⟨b5, m5, SA, SC, MA, MC, e7, _, hcx, hsx, hmx⟩ := WinAt.at_ hwx hu'
              obtain ⟨b6, m6, SB, SD, MB, MD, e8, _, hcy, hsy, hmy⟩ := WinAt.at_ hwy hs
              rw [hxu] at e7
              rw [hyu] at e8
              rw [e7] at x1
              rw [e8] at y1
              rw [hsu] at hcy hsy hmy
              have hlc := HLC.out u (List.mem_of_getElem? hu)
              obtain ⟨hd1, hd2⟩ := hdn
              generalize u'.2 = l' at *
              generalize u.2 = l at *
              have HSX := Lib.hid hsx
              have HMX := Lib.hid hmx
              have c0 := hcx 0 _ rfl
              have c1 := hcx 1 _ rfl
              have c2 := hcx 2 _ rfl
              have c3 := hcx 3 _ rfl
              have c4 := hcx 4 _ rfl
              have c5 := hcx 5 _ rfl
              have c6 := hcx 6 _ rfl
              have c7 := hcx 7 _ rfl
              have c8 := hcx 8 _ rfl
              simp only [Nat.add_zero] at c0
              have gg := hcy
              have z0 := hcy 0 _ rfl
              have z1 := hcy 1 _ rfl
              have z2 := hcy 2 _ rfl
              have z3 := hcy 3 _ rfl
              have z4 := hcy 4 _ rfl
              have z5 := hcy 5 _ rfl
              have z6 := hcy 6 _ rfl
              have z7 := hcy 7 _ rfl
              have z8 := hcy 8 _ rfl
              simp only [Nat.add_zero] at z0
              have HD1 := Lib.hid hd1
              have HD2 := Lib.hid hd2
              have hdn := HDN.out
              have hx1 : l'.smp.length = l.smp.length + 16 := by rw [hd1]; simp
              have hx2 : l'.mem.length = l.mem.length + 16 := by rw [hd2]; simp
              have HX1 := Lib.hid hx1
              have HX2 := Lib.hid hx2
              have HLB := Lib.hid (show l'.smp.length ≤ 1048592 ∧ l'.mem.length ≤ 1048592 from by omega)
              have HY1 := Lib.hid y1
              have HCY := Lib.hid gg
              obtain ⟨W1, hW1⟩ : ∃ W1, W1 = wr.alloc (.cells #[.int .i64 l'.k, .string l'.n, .int .i64 l'.c, .int .i64 (wh l'.sum), .int .u64 (wl l'.sum), .int .i64 (wh l'.wt), .int .u64 (wl l'.wt), .slice SA l'.smp.length SC, .slice MA l'.mem.length MC] TTal) := ⟨_, rfl⟩
              have hU1 : Upd [] wr W1 := by rw [hW1]; exact (Upd.refl [] wr).alloc _
              have HTB1 := Lib.hid (show HB W1 wr.heap.size TTal (talC l' SA SC MA MC) from by rw [hW1]; exact HB.new wr TTal (talC l' SA SC MA MC))
              have HU1 := Lib.hid hU1
              obtain ⟨W2, hW2⟩ : ∃ W2, W2 = W1.alloc (.cells #[.int .i64 l.k, .string l.n, .int .i64 l.c, .int .i64 (wh l.sum), .int .u64 (wl l.sum), .int .i64 (wh l.wt), .int .u64 (wl l.wt), .slice SB l.smp.length SD, .slice MB l.mem.length MD] TTal) := ⟨_, rfl⟩
              have hU2 : Upd [] W1 W2 := by rw [hW2]; exact (Upd.refl [] W1).alloc _
              have HUB := Lib.hid (show HB W2 W1.heap.size TTal (talC l SB SD MB MD) from by rw [hW2]; exact HB.new W1 TTal (talC l SB SD MB MD))
              have HTB := Lib.hid (HTB1.out.upd0 hU2)
              have HU12 := Lib.hid (hU1.then hU2)
              have hW2' := Lib.hid hW2
              clear hcx hcy gg hsx hmx hsy hmy hd1 hd2 e7 e8 eT1 eT2 hwx hwy hu hu' hs hsu e2 e3 e5 hxu hyu hx1 hx2 hlc z0 z1 z2 z3 z4 z5 z6 z7 z8 y0 y1 hU1 hU2 hW2
              have hlx := HLB.out
              obtain ⟨hlx1, hlx2⟩ := hlx
              go_upto_region 36 with fail
              rw [← hW1]
              clear hW1 x0 x1 c0 c1 c2 c3 c4 c5 c6 c7 c8
              have y1 := HU1.out.cell HY1.out (by simp)
              have z0 := HU1.out.cell (HCY.out 0 _ rfl) (by simp)
              have z1 := HU1.out.cell (HCY.out 1 _ rfl) (by simp)
              have z2 := HU1.out.cell (HCY.out 2 _ rfl) (by simp)
              have z3 := HU1.out.cell (HCY.out 3 _ rfl) (by simp)
              have z4 := HU1.out.cell (HCY.out 4 _ rfl) (by simp)
              have z5 := HU1.out.cell (HCY.out 5 _ rfl) (by simp)
              have z6 := HU1.out.cell (HCY.out 6 _ rfl) (by simp)
              have z7 := HU1.out.cell (HCY.out 7 _ rfl) (by simp)
              have z8 := HU1.out.cell (HCY.out 8 _ rfl) (by simp)
              simp only [Nat.add_zero] at z0
              go_upto_region 37 with fail
              rw [← hW2'.out]
              clear y1 z0 z1 z2 z3 z4 z5 z6 z7 z8
              have t7 := HTB.out.cell (j := 7) rfl
              go_wp2_with fail
              clear t7
              generalize wr = wq at *
              go_loopw [151] (fun j wr => ∃ p : Nat, p ≤ l'.smp.length ∧ j = .int .i64 p ∧ Upd [] W2 wr) (fun j _ => l'.smp.length - (intOf j).toNat)
              case atStart => exact ⟨0, Nat.zero_le _, rfl, by repeat (first | exact Upd.refl _ _ | assumption | apply Upd.drewN | apply Upd.drew | apply Upd.alloc)⟩
              case round =>
                obtain ⟨p, hp, rfl, hU⟩ := hrel
                have HU3 := Lib.hid hU
                clear hU
                have t8 := HU3.out.cell (HTB.out.cell (j := 8) rfl) (by simp)
                by_cases hlt3 : p < l'.smp.length
                · have hox := own_upd HSX.out (HU12.out.then HU3.out) (by simp)
                  obtain ⟨g, eA, cg⟩ := own_int hox (p := p) (x := l'.smp[p]) (List.getElem?_eq_getElem hlt3)
                  have hxe : l'.smp[p]? = some l'.smp[p] := List.getElem?_eq_getElem hlt3
                  obtain ⟨xe, hxq⟩ : ∃ xe, xe = l'.smp[p] := ⟨_, rfl⟩
                  rw [← hxq] at cg hxe
                  rw [HD1.out] at hxe
                  subst eA
                  have t7 := HU3.out.cell (HTB.out.cell (j := 7) rfl) (by simp)
                  have u7 := HU3.out.cell (HUB.out.cell (j := 7) rfl) (by simp)
                  by_cases hn : p < l.smp.length
                  · rw [List.getElem?_append_left (by simpa using hn), List.getElem?_replicate_of_lt hn] at hxe
                    obtain rfl := Option.some.inj hxe
                    have d1 : decide (p < l.smp.length) = true := decide_eq_true hn
                    have d2 : decide (l.smp.length ≤ p) = false := decide_eq_false (by omega)
                    clear hox hxq hn hxe
                    go_wp2_with fail
                    go_roundw
                    case rel => exact ⟨p + 1, by omega, by go_num, HU3.out.then (by repeat (first | exact Upd.refl _ _ | assumption | apply Upd.drewN | apply Upd.drew | apply Upd.alloc))⟩
                    case measure => simp [intOf]; omega
                  · rw [List.getElem?_append_right (by simpa using hn), List.length_replicate, List.getElem?_replicate_of_lt (by have := HX1.out; omega)] at hxe
                    obtain rfl := Option.some.inj hxe
                    have d1 : decide (p < l.smp.length) = false := decide_eq_false hn
                    have d2 : decide (l.smp.length ≤ p) = true := decide_eq_true (by omega)
                    clear hox hxq hn hxe
                    go_wp2_with fail
                    go_roundw
                    case rel => exact ⟨p + 1, by omega, by go_num, HU3.out.then (by repeat (first | exact Upd.refl _ _ | assumption | apply Upd.drewN | apply Upd.drew | apply Upd.alloc))⟩
                    case measure => simp [intOf]; omega
                · go_wp2_with fail
                  clear t8
                  generalize wr = wp at *
                  go_loopw [186] (fun j wr => ∃ p : Nat, p ≤ l'.mem.length ∧ j = .int .i64 p ∧ Upd [] W2 wr) (fun j _ => l'.mem.length - (intOf j).toNat)
                  case atStart => exact ⟨0, Nat.zero_le _, rfl, HU3.out.then (by repeat (first | exact Upd.refl _ _ | assumption | apply Upd.drewN | apply Upd.drew | apply Upd.alloc))⟩
                  case round =>
                    obtain ⟨p, hp, rfl, hU⟩ := hrel
                    have HU4 := Lib.hid hU
                    clear hU
                    by_cases hlt3 : p < l'.mem.length
                    · have hox := own_upd HMX.out (HU12.out.then HU4.out) (by simp)
                      obtain ⟨g, eA, cg⟩ := own_str hox (p := p) (x := l'.mem[p]) (List.getElem?_eq_getElem hlt3)
                      have hxe : l'.mem[p]? = some l'.mem[p] := List.getElem?_eq_getElem hlt3
                      obtain ⟨xe, hxq⟩ : ∃ xe, xe = l'.mem[p] := ⟨_, rfl⟩
                      rw [← hxq] at cg hxe
                      rw [HD2.out] at hxe
                      subst eA
                      have t8 := HU4.out.cell (HTB.out.cell (j := 8) rfl) (by simp)
                      have u8 := HU4.out.cell (HUB.out.cell (j := 8) rfl) (by simp)
                      by_cases hn : p < l.mem.length
                      · rw [List.getElem?_append_left (by simpa using hn), List.getElem?_replicate_of_lt hn] at hxe
                        obtain rfl := Option.some.inj hxe
                        have d1 : decide (p < l.mem.length) = true := decide_eq_true hn
                        have d2 : decide (l.mem.length ≤ p) = false := decide_eq_false (by omega)
                        clear hox hxq hn hxe
                        go_wp2_with fail
                        go_roundw
                        case rel => exact ⟨p + 1, by omega, by go_num, HU4.out.then (by repeat (first | exact Upd.refl _ _ | assumption | apply Upd.drewN | apply Upd.drew | apply Upd.alloc))⟩
                        case measure => simp [intOf]; omega
                      · rw [List.getElem?_append_right (by simpa using hn), List.length_replicate, List.getElem?_replicate_of_lt (by have := HX2.out; omega)] at hxe
                        obtain rfl := Option.some.inj hxe
                        have d1 : decide (p < l.mem.length) = false := decide_eq_false hn
                        have d2 : decide (l.mem.length ≤ p) = true := decide_eq_true (by omega)
                        clear hox hxq hn hxe
                        go_wp2_with fail
                        go_roundw
                        case rel => exact ⟨p + 1, by omega, by go_num, HU4.out.then (by repeat (first | exact Upd.refl _ _ | assumption | apply Upd.drewN | apply Upd.drew | apply Upd.alloc))⟩
                        case measure => simp [intOf]; omega
                    · go_wp2_with fail
                      go_roundw
                      case rel => exact ⟨r + 1, by omega, by go_num, HUr.out.then (HU12.out.then HU4.out)⟩
                      case measure => simp [intOf]; omega
            · go_wp2_with fail
              go_roundw
              case rel => exact ⟨q + 1, by omega, by go_num, HUr.out⟩
              case measure => simp [intOf]; omega
        · have HUF := Lib.hid (HUZ.out.then HUq.out)
          have HYF := Lib.hid (HY5.out.upd HUq.out (by simp) (by simp))
          go_wp2_with fail
          refine (HTO.out wr HUF.out).mono ?_
          rintro e w5 ⟨vc, ew, A5, rfl, hC5, hW5, hU5⟩
          have HUG := Lib.hid (HUF.out.then hU5)
          have HSW := Lib.hid (sameW_calls (HYF.out.upd hU5 (by simp) (by simp)) hW5 (HPL.out.symm.trans (HC.out.unique hC5).1) (by rw [← HPL.out]; exact HWF.out) (Nat.le_refl _) (Nat.le_refl _))
          clear hC5 hW5 hU5
          go_wp2_with fail
          refine HSW.out.mono ?_
          rintro e w6 ⟨rfl, hU6⟩
          have HUE := Lib.hid (HUG.out.then hU6)
          clear hU6
          go_wp2
          go_ret
          exact ⟨rfl, HUE.out⟩
theorem aggOwn_calls (c0 : List Value) (x0 : GT.den (.slice gRow)) (W : World) (h0 : Rd W (· < W.heap.size) (.slice gRow) c0 x0) (hk : GT.bulk (.slice gRow) x0 ≤ 1048576) (hM : MaxL W) :
    Calls Tryz.prog 6 #[GT.val (.slice gRow) c0] W fun e w' => e = .returned (.bool true) ∧ Upd [] W w' := by
  obtain ⟨v, rows, rfl, hR, hok, _⟩ := rd_rows h0 hk
  exact own_calls rows v _ W hR (fun b h => h) hok hM
end Go.Proofs.YthbjpoiolmlpmaaGreatDoor
