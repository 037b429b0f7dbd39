/- tumblerref08.Join. -/
import Derived.Test.YthbjpoiolmlpmaaSorted
set_option linter.unusedVariables false
set_option linter.unusedSimpArgs false
namespace Go.Proofs.Ythbjpoiolmlpmaa
open Go.RowKit

def same (a b : TC) : Bool := decide (a.k = b.k) && decide (a.n = b.n)
/-- What is wrong with a tally behind others: 80 its kind, 82 it was there; 0 nothing. -/
def bad (acc : List TC) (t : TC) : Int := if t.k < 1 ∨ 4 < t.k then 80 else if acc.any (fun u => same u t) = true then 82 else 0
def scan (acc : List TC) : List TC → Int
  | [] => 0
  | t :: ts => if bad acc t = 0 then scan (acc ++ [t]) ts else bad acc t
theorem scan_ok {acc : List TC} {t : TC} {ts : List TC} (h : bad acc t = 0) : scan acc (t :: ts) = scan (acc ++ [t]) ts := by simp [scan, h]
theorem scan_bad {acc : List TC} {t : TC} {ts : List TC} (h : ¬ bad acc t = 0) : scan acc (t :: ts) = bad acc t := by simp [scan, h]

/-- The tallies ahead of place k of list i. -/
def pre (tss : List (List TC)) (i k : Nat) : List TC := (tss.take i).flatten ++ (tss.getD i []).take k
theorem pre_split {tss : List (List TC)} {i k : Nat} {ts : List TC} {t : TC} (h : tss[i]? = some ts) (hk : ts[k]? = some t) : ∃ rest, tss.flatten = pre tss i k ++ t :: rest := by
  have e1 : tss = tss.take i ++ ts :: tss.drop (i + 1) := by
    have hi := (List.getElem?_eq_some_iff.1 h).1
    have := List.take_append_drop i tss
    rw [List.drop_eq_getElem_cons hi] at this
    rw [(List.getElem?_eq_some_iff.1 h).2] at this
    exact this.symm
  have e2 : ts = ts.take k ++ t :: ts.drop (k + 1) := by
    have hi := (List.getElem?_eq_some_iff.1 hk).1
    have := List.take_append_drop k ts
    rw [List.drop_eq_getElem_cons hi] at this
    rw [(List.getElem?_eq_some_iff.1 hk).2] at this
    exact this.symm
  refine ⟨ts.drop (k + 1) ++ (tss.drop (i + 1)).flatten, ?_⟩
  have e3 : tss.getD i [] = ts := by simp [List.getD, h]
  unfold pre
  rw [e3]
  have e4 : tss.flatten = (tss.take i).flatten ++ (ts ++ (tss.drop (i + 1)).flatten) := by
    have := congrArg List.flatten e1
    rw [List.flatten_append, List.flatten_cons] at this
    exact this
  have e5 : ts ++ (tss.drop (i + 1)).flatten = ts.take k ++ t :: (ts.drop (k + 1) ++ (tss.drop (i + 1)).flatten) := by
    have := congrArg (· ++ (tss.drop (i + 1)).flatten) e2
    simpa using this
  rw [e4, e5, List.append_assoc]
theorem pre_succ {tss : List (List TC)} {i k : Nat} {ts : List TC} {t : TC} (h : tss[i]? = some ts) (hk : ts[k]? = some t) : pre tss i (k + 1) = pre tss i k ++ [t] := by
  have e3 : tss.getD i [] = ts := by simp [List.getD, h]
  unfold pre
  rw [e3, take_snoc' hk, List.append_assoc]
theorem pre_next {tss : List (List TC)} {i : Nat} {ts : List TC} (h : tss[i]? = some ts) : pre tss i ts.length = pre tss (i + 1) 0 := by
  have e3 : tss.getD i [] = ts := by simp [List.getD, h]
  unfold pre
  rw [e3, List.take_length, take_snoc' h]
  simp
theorem pre_zero (tss : List (List TC)) : pre tss 0 0 = [] := by simp [pre]
theorem pre_all (tss : List (List TC)) : pre tss tss.length 0 = tss.flatten := by simp [pre]
theorem pre_le (tss : List (List TC)) (i k : Nat) : (pre tss i k).length ≤ tss.flatten.length := by
  unfold pre
  by_cases hi : i < tss.length
  · have e1 : tss = tss.take i ++ tss[i] :: tss.drop (i + 1) := by
      have := List.take_append_drop i tss
      rw [List.drop_eq_getElem_cons hi] at this
      exact this.symm
    have e3 : tss.getD i [] = tss[i] := by simp [List.getD, List.getElem?_eq_getElem hi]
    have e4 := congrArg (fun l => (List.flatten l).length) e1
    simp only [List.flatten_append, List.flatten_cons, List.length_append] at e4
    rw [List.length_append, e3, List.length_take]
    omega
  · have e3 : tss.getD i [] = [] := by simp [List.getD, List.getElem?_eq_none (show tss.length ≤ i by omega)]
    rw [e3, List.take_of_length_le (by omega)]
    simp
/-- The scan has come behind the tallies ahead of (i, k) without a fault. -/
def At (tss : List (List TC)) (i k : Nat) : Prop := ∀ rest, tss.flatten = pre tss i k ++ rest → scan [] tss.flatten = scan (pre tss i k) rest
theorem At.zero (tss : List (List TC)) : At tss 0 0 := by
  intro rest h
  rw [pre_zero] at h ⊢
  rw [h]
  rfl
theorem At.succ {tss : List (List TC)} {i k : Nat} {ts : List TC} {t : TC} (ha : At tss i k) (h : tss[i]? = some ts) (hk : ts[k]? = some t) (hb : bad (pre tss i k) t = 0) : At tss i (k + 1) := by
  intro rest hr
  rw [pre_succ h hk] at hr ⊢
  rw [← scan_ok hb]
  exact ha _ (by rw [hr]; simp)
theorem At.bad {tss : List (List TC)} {i k : Nat} {ts : List TC} {t : TC} (ha : At tss i k) (h : tss[i]? = some ts) (hk : ts[k]? = some t) (hb : ¬ Go.Proofs.Ythbjpoiolmlpmaa.bad (pre tss i k) t = 0) : scan [] tss.flatten = Go.Proofs.Ythbjpoiolmlpmaa.bad (pre tss i k) t := by
  obtain ⟨rest, hr⟩ := pre_split h hk
  rw [ha _ hr, scan_bad hb]
theorem At.end_ {tss : List (List TC)} (ha : At tss tss.length 0) : scan [] tss.flatten = 0 := by
  have := ha [] (by rw [pre_all]; simp)
  rw [this]
  rfl
theorem any_take_succ {p : TC → Bool} {l : List TC} {j : Nat} {u : TC} (h : l[j]? = some u) : (l.take (j + 1)).any p = ((l.take j).any p || p u) := by rw [take_snoc' h]; simp

set_option maxHeartbeats 2000000 in
theorem rjoin_calls (v : Value) (vs : List Value) (tss : List (List TC)) (F : Nat → Prop) (w : World) (h : RowK w F (fun x => [x]) 1 v vs) (hl : vs.length = tss.length)
    (hr : ∀ (i : Nat) (x : Value) (ts : List TC), vs[i]? = some x → tss[i]? = some ts → RowK w F TC.cells 9 x ts) (hn : tss.flatten.length ≤ 1048576) (hn2 : tss.length ≤ 1048576) :
    Calls Try.prog 5 #[v] w fun e w' => ∃ v', e = .returned (.tuple #[v', .int .i64 (scan [] tss.flatten)]) ∧ Upd [] w w' ∧
      (scan [] tss.flatten = 0 → w'.ownsRow w.heap.size 36 9 v' tss.flatten.length ((sortedT tss.flatten).flatMap TC.cells)) ∧ (¬ scan [] tss.flatten = 0 → v' = .slice none 0 0) := by
  obtain ⟨A, c, rfl, hlc, hcm, hA⟩ := h.shape
  rw [hl] at hlc ⊢
  have HR := Lib.hid h
  have HL := Lib.hid hl
  have HRR := Lib.hid hr
  clear h hl hr hA
  go_enter Try.func5, Try.ntmps5
  go_wp2
  go_loopw [4, 5] (fun va i wr => ∃ k : Nat, k ≤ tss.length ∧ i = .int .i64 k ∧ wr.ownsRow w.heap.size 36 9 va (pre tss k 0).length ((pre tss k 0).flatMap TC.cells) ∧ At tss k 0 ∧ Upd [] w wr) (fun _ i _ => tss.length - (intOf i).toNat)
  case atStart => exact ⟨0, Nat.zero_le _, rfl, by rw [pre_zero]; exact World.ownsRow_nil _ _ _ _, At.zero _, Upd.refl _ _⟩
  case round =>
    obtain ⟨k, hk, rfl, hown, hat, hU⟩ := hrel
    have HO := Lib.hid hown
    have HA := Lib.hid hat
    have HU := Lib.hid hU
    clear hown hat hU
    by_cases hlt : k < tss.length
    · obtain ⟨ts, hts⟩ : ∃ ts, tss[k]? = some ts := ⟨tss[k], List.getElem?_eq_getElem hlt⟩
      obtain ⟨x, hx⟩ : ∃ x, vs[k]? = some x := ⟨vs[k]'(by have := HL.out; omega), List.getElem?_eq_getElem _⟩
      obtain ⟨b, o, rfl, _, hc⟩ := HR.out.at1 hx
      have hrow := HRR.out k x ts hx hts
      obtain ⟨B, cc, rfl, hbl, hbm, _⟩ := hrow.shape
      have HTS := Lib.hid hts
      have HC := Lib.hid hc
      have HROW := Lib.hid hrow
      have htl : ts.length ≤ 1048576 := by
        have := pre_le tss k ts.length
        have e3 : tss.getD k [] = ts := by simp [List.getD, hts]
        unfold pre at this
        rw [e3, List.take_length, List.length_append] at this
        omega
      clear hts hx hc hrow
      go_wp2
      obtain ⟨wo, rfl⟩ : ∃ wo : World, wo = wr := ⟨_, rfl⟩
      go_loopw [4, 6] (fun va i wr => ∃ m : Nat, m ≤ ts.length ∧ i = .int .i64 m ∧ wr.ownsRow w.heap.size 36 9 va (pre tss k m).length ((pre tss k m).flatMap TC.cells) ∧ At tss k m ∧ Upd [] w wr) (fun _ i _ => ts.length - (intOf i).toNat)
      case atStart => exact ⟨0, Nat.zero_le _, rfl, HO.out, HA.out, HU.out⟩
      case round =>
        clear HO HA
        obtain ⟨m, hm, rfl, hown, hat, hU⟩ := hrel
        have HO := Lib.hid hown
        have HA := Lib.hid hat
        have HUI := Lib.hid hU
        have hc := hU.cell HC.out (by simp)
        clear hown hat hU
        by_cases hlt2 : m < ts.length
        · obtain ⟨t, ht⟩ : ∃ t, ts[m]? = some t := ⟨ts[m], List.getElem?_eq_getElem hlt2⟩
          obtain ⟨b2, o2, rfl, _, f2⟩ := HROW.out.at_ ht
          have F2 := Lib.hid f2
          have HT := Lib.hid ht
          clear f2 ht
          obtain ⟨x0, x1, x2, x3, x4, x5, x6, x7, x8⟩ : _ ∧ _ ∧ _ ∧ _ ∧ _ ∧ _ ∧ _ ∧ _ ∧ _ := ⟨HUI.out.cell (F2.out 0 _ rfl) (by simp), HUI.out.cell (F2.out 1 _ rfl) (by simp), HUI.out.cell (F2.out 2 _ rfl) (by simp), HUI.out.cell (F2.out 3 _ rfl) (by simp), HUI.out.cell (F2.out 4 _ rfl) (by simp), HUI.out.cell (F2.out 5 _ rfl) (by simp), HUI.out.cell (F2.out 6 _ rfl) (by simp), HUI.out.cell (F2.out 7 _ rfl) (by simp), HUI.out.cell (F2.out 8 _ rfl) (by simp)⟩
          rw [Nat.add_zero] at x0
          have HP := Lib.hid (pre_succ HTS.out HT.out)
          have hpl := pre_le tss k m
          by_cases hk1 : t.k < 1
          · have hs := Lib.hid (show scan [] tss.flatten = 80 by
              have hb : bad (pre tss k m) t = 80 := by unfold bad; rw [if_pos (.inl hk1)]
              rw [HA.out.bad HTS.out HT.out (by rw [hb]; decide), hb])
            go_wp2
            go_ret2
            exact ⟨.slice none 0 0, by rw [hs.out]; rfl, HUI.out.alloc _, (fun e => by rw [hs.out] at e; cases e), fun _ => rfl⟩
          · by_cases hk4 : 4 < t.k
            · have hs := Lib.hid (show scan [] tss.flatten = 80 by
                have hb : bad (pre tss k m) t = 80 := by unfold bad; rw [if_pos (.inr hk4)]
                rw [HA.out.bad HTS.out HT.out (by rw [hb]; decide), hb])
              have e1 : decide (t.k < 1) = false := by simpa using hk1
              go_wp2
              go_ret2
              exact ⟨.slice none 0 0, by rw [hs.out]; rfl, HUI.out.alloc _, (fun e => by rw [hs.out] at e; cases e), fun _ => rfl⟩
            · have e1 : decide (t.k < 1) = false := by simpa using hk1
              have e2 : decide (4 < t.k) = false := by simpa using hk4
              obtain ⟨B3, c3, rfl, q1, q2, _⟩ := own_shape HO.out
              unfold maxLen at q2
              go_wp2
              obtain ⟨wo2, hwo2⟩ : ∃ wo2 : World, wo2 = wr := ⟨_, rfl⟩
              go_loopw [8] (fun j wi => ∃ q : Nat, q ≤ (pre tss k m).length ∧ j = .int .i64 q ∧ ((pre tss k m).take q).any (fun u => same u t) = false ∧ HB wi wr.heap.size 36 t.cells ∧
                wi.ownsRow w.heap.size 36 9 (.slice B3 (pre tss k m).length c3) (pre tss k m).length ((pre tss k m).flatMap TC.cells) ∧ Upd [] w wi) (fun j _ => (pre tss k m).length - (intOf j).toNat)
              case atStart => exact ⟨0, Nat.zero_le _, rfl, by simp, HB.new _ _ _, HO.out.alloc _, HUI.out.alloc _⟩
              case round =>
                obtain ⟨q, hq, rfl, hany, hbt, hown, hU⟩ := hrel
                have HBT := Lib.hid hbt
                have HOI := Lib.hid hown
                have HUJ := Lib.hid hU
                have HANY := Lib.hid hany
                have t0 := hbt.cell (j := 0) rfl
                have t1 := hbt.cell (j := 1) rfl
                clear hbt hown hU hany
                by_cases hlt3 : q < (pre tss k m).length
                · obtain ⟨y, hy⟩ : ∃ y, (pre tss k m)[q]? = some y := ⟨(pre tss k m)[q], List.getElem?_eq_getElem hlt3⟩
                  obtain ⟨b3, o3, rfl, _, f3⟩ := (own_row TC.len (by decide) HOI.out).2.at_ hy
                  have y0 := f3 0 _ rfl
                  have y1 := f3 1 _ rfl
                  rw [Nat.add_zero] at y0
                  have HY := Lib.hid hy
                  have HS := Lib.hid (any_take_succ (p := fun u => same u t) hy)
                  clear f3 hy
                  by_cases hyk : y.k = t.k
                  · have d1 : (y.k == t.k) = true := by simpa using hyk
                    by_cases hyn : y.n = t.n
                    · have hs := Lib.hid (show scan [] tss.flatten = 82 by
                        have hb : bad (pre tss k m) t = 82 := by
                          unfold bad
                          rw [if_neg (by omega), if_pos]
                          rw [List.any_eq_true]
                          exact ⟨y, List.mem_of_getElem? HY.out, by simp [same, hyk, hyn]⟩
                        rw [HA.out.bad HTS.out HT.out (by rw [hb]; decide), hb])
                      have HK := Lib.hid hyk
                      have HN' := Lib.hid hyn
                      have d2 : (y.n.toList == t.n.toList) = true := by rw [hyn]; simp
                      clear hyk hyn
                      go_wp2
                      go_quiet (fail)
                      go_wp2
                      go_ret2
                      exact ⟨.slice none 0 0, by rw [hs.out]; rfl, HUJ.out.drewN _, (fun e => by rw [hs.out] at e; cases e), fun _ => rfl⟩
                    · have HE := Lib.hid (show same y t = false by simp [same, hyn])
                      have HK := Lib.hid hyk
                      have d2 : (y.n.toList == t.n.toList) = false := by rw [beq_eq_false_iff_ne]; exact fun e => hyn (toList_inj.1 e)
                      clear hyk hyn
                      go_wp2
                      go_quiet (fail)
                      go_wp2
                      go_roundw
                      case rel => exact ⟨q + 1, by omega, by go_num, by rw [HS.out, HANY.out, HE.out]; rfl, HBT.out, HOI.out, HUJ.out.drewN _⟩
                      case measure => simp [intOf]; omega
                  · have d1 : (y.k == t.k) = false := by simpa using hyk
                    have HE := Lib.hid (show same y t = false by simp [same, hyk])
                    clear hyk
                    go_wp2
                    go_quiet (fail)
                    go_wp2
                    go_roundw
                    case rel => exact ⟨q + 1, by omega, by go_num, by rw [HS.out, HANY.out, HE.out]; rfl, HBT.out, HOI.out, HUJ.out.drewN _⟩
                    case measure => simp [intOf]; omega
                · have hb := Lib.hid (show bad (pre tss k m) t = 0 by
                    unfold bad
                    rw [if_neg (by omega), if_neg]
                    have h1 := HANY.out
                    rw [List.take_of_length_le (by omega)] at h1
                    rw [h1]
                    decide)
                  have t2 := HBT.out.cell (j := 2) rfl
                  have t3 := HBT.out.cell (j := 3) rfl
                  have t4 := HBT.out.cell (j := 4) rfl
                  have t5 := HBT.out.cell (j := 5) rfl
                  have t6 := HBT.out.cell (j := 6) rfl
                  have t7 := HBT.out.cell (j := 7) rfl
                  have t8 := HBT.out.cell (j := 8) rfl
                  have hus := HUJ.out.size
                  have hlim : (pre tss k m).length ≤ 1048576 := by omega
                  go_wp2_with (at_builtin; go_must (refine wp_append1 w.heap.size 22 36 _ 9 112 (.slice B3 (pre tss k m).length c3) _ _ (TC.cells t) _ rfl rfl (by kernel_rfl) infoT rfl (by decide) (by decide) rfl rfl (TC.len _) (TC.one _) (HOI.out.alloc _) (by first | exact HB.new _ _ _ | exact (HB.new _ _ _).drewN _ | exact (HB.new _ _ _).drew) (by first | omega | (simp; done) | (simp; omega)) (by omega) ?_))
                  intro v1 w1 hown1 hU1 hat1
                  have HO1 := Lib.hid hown1
                  have HU1 := Lib.hid hU1
                  clear hown1 hU1 hat1
                  go_wp2
                  go_roundw
                  case rel =>
                    refine ⟨m + 1, by omega, by go_num, ?_, HA.out.succ HTS.out HT.out hb.out, app_upd HUJ.out (by first | exact (Upd.refl _ _).alloc _ | exact ((Upd.refl _ _).alloc _).drewN _ | exact ((Upd.refl _ _).alloc _).drew) HU1.out (own_base HOI.out)⟩
                    rw [HP.out, List.length_append, List.flatMap_append]
                    simpa using HO1.out
                  case measure => simp [intOf]; omega
        · obtain rfl : m = ts.length := by omega
          have HN := Lib.hid (pre_next HTS.out)
          go_wp2
          go_roundw
          case rel =>
            refine ⟨k + 1, by omega, by go_num, ?_, ?_, HUI.out⟩
            · rw [← HN.out]; exact HO.out
            · have := HA.out
              unfold At at this ⊢
              rw [HN.out] at this
              exact this
          case measure => simp [intOf]; omega
    · obtain rfl : k = tss.length := by omega
      have hs := Lib.hid HA.out.end_
      have HO' : Hid (wr.ownsRow w.heap.size 36 9 u4 tss.flatten.length (tss.flatten.flatMap TC.cells)) := by
        have := HO.out
        rw [pre_all] at this
        exact this
      have hcall := Lib.hid (fun W (hW : Upd [] wr W) => sorted_calls u4 tss.flatten (w.heap.size ≤ ·) W ((own_row TC.len (by decide) (own_upd HO'.out hW (fun _ _ => by simp))).2) hn)
      clear HO HA
      go_wp2_with fail
      refine (hcall.out _ (Upd.refl _ _)).mono ?_
      rintro e w2 ⟨v', rfl, hU2, hown2⟩
      have K1 := Lib.hid hU2
      have K2 := Lib.hid hown2
      clear hU2 hown2
      go_wp2
      go_ret2
      refine ⟨v', by rw [hs.out]; rfl, HU.out.then K1.out, fun _ => ?_, fun e => absurd hs.out e⟩
      exact own_base_mono K2.out HU.out.size
end Go.Proofs.Ythbjpoiolmlpmaa
