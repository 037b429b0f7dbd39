/- The law's own walk: AggJoins. -/
import Derived.Test.YthbjpoiolmlpmaaJoinLaw
import Derived.Test.YthbjpoiolmlpmaaLift
set_option linter.unusedVariables false
set_option linter.unusedSimpArgs false
namespace Go.Proofs.Ythbjpoiolmlpmaa
open Go.RowKit

/-- A list of tallies that reads as data, taken apart. -/
theorem open_tallies {w : World} {F : Nat → Prop} {cs : List Value} {xs : List Tally} (h : Rd w F (.slice gTally) cs xs) :
    ∃ A c, cs = [.slice A xs.length c] ∧ ∃ ts : List TC, ts.length = xs.length ∧ RowK w F TC.cells 9 (.slice A xs.length c) ts ∧ TDs w F ts xs := by
  obtain ⟨A, c, rfl, h1, h2, h3, h4⟩ := id h
  obtain ⟨_, _, _, _, css, hl, hc, hk, hcc⟩ := rd_cells h
  obtain ⟨ts, htl, hts⟩ := list_of (p := fun i (t : TC) => css[i]? = some t.cells) xs.length (fun i hi => by
    have hi' : i < css.length := by omega
    obtain ⟨t, ht, _⟩ := tc_rd (hc i _ _ (List.getElem?_eq_getElem hi') (List.getElem?_eq_getElem hi))
    exact ⟨t, by rw [List.getElem?_eq_getElem hi', ht]⟩)
  refine ⟨A, c, rfl, ts, htl, ⟨A, c, by rw [htl], by omega, h2, h3, fun i x hx => ?_⟩, htl, fun i a d h1 h2 => hc i _ _ (hts i a h1) h2⟩
  exact hcc i _ (hts i x hx)
theorem TDs.append {w : World} {F : Nat → Prop} : ∀ {us : List TC} {ds : List Tally} {us' : List TC} {ds' : List Tally}, TDs w F us ds → TDs w F us' ds' → TDs w F (us ++ us') (ds ++ ds')
  | [], ds, us', ds', h, h' => by
    have := h.1
    cases ds with
    | nil => exact h'
    | cons _ _ => simp at this
  | a :: us, ds, us', ds', h, h' => by
    obtain ⟨d, ds2, rfl, h1, h2⟩ := h.uncons
    exact (TDs.append h2 h').cons h1
theorem TDs.mono {w : World} {F G : Nat → Prop} (hFG : ∀ b, F b → G b) {us : List TC} {ds : List Tally} (h : TDs w F us ds) : TDs w G us ds := ⟨h.1, fun i a d h1 h2 => Rd.mono hFG _ _ _ (h.2 i a d h1 h2)⟩
theorem bulk_mem {g : GT} : ∀ {xs : List g.den} {i : Nat} {x : g.den}, xs[i]? = some x → g.bulk x ≤ GT.bulk (.slice g) xs
  | [], i, x, h => by simp at h
  | y :: xs, 0, x, h => by simp at h; subst h; simp [GT.bulk]; omega
  | y :: xs, i + 1, x, h => by
    have := bulk_mem (xs := xs) (by simpa using h)
    simp [GT.bulk] at *
    omega
theorem bulk_len {g : GT} (hg : ∀ x, 1 ≤ g.bulk x) : ∀ (xs : List g.den), xs.length + 1 ≤ GT.bulk (.slice g) xs
  | [] => by simp [GT.bulk]
  | y :: xs => by
    have := bulk_len hg xs
    have := hg y
    simp [GT.bulk] at *
    omega
theorem bulk_tally (x : Tally) : 1 ≤ gTally.bulk x ∧ x.2.2.2.2.2.1.length ≤ gTally.bulk x ∧ x.2.2.2.2.2.2.1.length ≤ gTally.bulk x := by
  have h1 := bulk_len (g := gI) (fun _ => Nat.le_refl _) x.2.2.2.2.2.1
  have h2 := bulk_len (g := .str) (fun _ => by simp [GT.bulk]) x.2.2.2.2.2.2.1
  simp only [gTally, GT.bulk] at *
  omega
/-- Three lists' tallies, the slices that hold them small. -/
theorem small_of {w : World} {F : Nat → Prop} {ts : List TC} {xs : List Tally} (h : TDs w F ts xs) (hb : GT.bulk (.slice gTally) xs ≤ 1048576) : ∀ (i : Nat) (t : TC), ts[i]? = some t → t.sn ≤ 1048576 ∧ t.mn ≤ 1048576 := by
  intro i t ht
  have hi := (List.getElem?_eq_some_iff.1 ht).1
  have hj : i < xs.length := by have := h.1; omega
  have r := tc_rd' (h.2 i t _ ht (List.getElem?_eq_getElem hj))
  have b := bulk_mem (g := gTally) (List.getElem?_eq_getElem hj)
  have c := bulk_tally xs[i]
  omega

def tg : TC := ⟨2, ⟨#[103]⟩, 0, 0, 0, 0, 0, none, 0, 0, none, 0, 0⟩
def ta : TC := ⟨1, ⟨#[97]⟩, 0, 0, 0, 0, 0, none, 0, 0, none, 0, 0⟩
theorem scan_pair : scan [] [[tg], [ta]].flatten = 0 := by decide
theorem sorted_pair : (sortedT [tg, ta]).map keyT = [(1, ⟨#[97]⟩), (2, ⟨#[103]⟩)] := by
  have e : sortedT [tg, ta] = insT ta [tg] := by
    show insFin ta (insFin tg []) = _
    rw [insFin_eq, insFin_eq]
    rfl
  have h : ltT ta tg = true := by simp [ltT, ta, tg]
  rw [e]
  simp only [insT, h, if_true]
  rfl
theorem rd_zero {w : World} {F : Nat → Prop} (k : Int) (n : ByteArray) (hk : (Lit.int .i64 k).wf = true) (hn : n.size ≤ maxLen) : Rd w F gTally (TC.cells ⟨k, n, 0, 0, 0, 0, 0, none, 0, 0, none, 0, 0⟩) (k, n, 0, (0, 0, ()), (0, 0, ()), [], [], ()) := by
  have wi : (Lit.int .i64 0).wf = true := rfl
  have wu : (Lit.int .u64 0).wf = true := rfl
  have hs : ∀ g : GT, Rd w F (.slice g) [.slice none 0 0] [] := fun g => ⟨none, 0, rfl, Nat.le_refl _, Nat.zero_le _, fun _ => rfl, fun i x hx => by simp at hx⟩
  exact ⟨[_], _, rfl, ⟨rfl, hk⟩, [_], _, rfl, ⟨rfl, hn⟩, [_], _, rfl, ⟨rfl, wi⟩, [_, _], _, rfl, ⟨[_], _, rfl, ⟨rfl, wi⟩, [_], [], rfl, ⟨rfl, wu⟩, rfl⟩, [_, _], _, rfl, ⟨[_], _, rfl, ⟨rfl, wi⟩, [_], [], rfl, ⟨rfl, wu⟩, rfl⟩, [_], _, rfl, hs _, [_], [], rfl, hs _, rfl⟩
theorem row1 (w : World) (b : Nat) (t : TC) (F : Nat → Prop) (hF : F b) (h : HB w b 36 t.cells) : RowK w F TC.cells 9 (.slice (some ⟨b, 0, none⟩) 1 1) [t] := by
  refine ⟨_, 1, rfl, Nat.le_refl _, by decide, by simp, fun i x hx => ⟨b, 0, rfl, hF, fun j u hj => ?_⟩⟩
  match i with
  | 0 =>
    simp at hx
    subst hx
    have := h.cell hj
    simpa using this
  | i + 1 => simp at hx
/- The law own lists. -/
set_option maxHeartbeats 4000000 in
theorem pair_calls (X : World) : Calls Try.prog 4 #[.slice (some ⟨X.heap.size + 1 + 1, 0, none⟩) 2 2] (((X.alloc (.cells tg.cells.toArray 36)).alloc (.cells ta.cells.toArray 36)).alloc (.cells #[.slice (some ⟨X.heap.size, 0, none⟩) 1 1, .slice (some ⟨X.heap.size + 1, 0, none⟩) 1 1] 22)) fun e w' =>
    ∃ A c b, e = .returned (.tuple #[.slice A 2 c, .int .i64 0]) ∧ 2 ≤ c ∧ c ≤ maxLen ∧ A = some ⟨b, 0, none⟩ ∧ Upd [] X w' ∧ w'.cell? ⟨b, 1, none⟩ = some (.string ⟨#[97]⟩) ∧ w'.cell? ⟨b, 10, none⟩ = some (.string ⟨#[103]⟩) := by
  obtain ⟨Y, hY⟩ : ∃ Y, Y = ((X.alloc (.cells tg.cells.toArray 36)).alloc (.cells ta.cells.toArray 36)) := ⟨_, rfl⟩
  have hz : Y.heap.size = X.heap.size + 1 + 1 := by rw [hY]; simp
  have h1 : HB Y X.heap.size 36 tg.cells := by rw [hY]; exact (HB.new _ _ _).alloc _
  have h2 : HB Y (X.heap.size + 1) 36 ta.cells := by rw [hY]; exact HB.new1 _ _ _ _
  have hUY : Upd [] X Y := by rw [hY]; exact ((Upd.refl _ _).alloc _).alloc _
  rw [← hY, ← hz]
  have hn := HB.new Y 22 [.slice (some ⟨X.heap.size, 0, none⟩) 1 1, .slice (some ⟨X.heap.size + 1, 0, none⟩) 1 1]
  have hD : TDs (Y.alloc (.cells #[.slice (some ⟨X.heap.size, 0, none⟩) 1 1, .slice (some ⟨X.heap.size + 1, 0, none⟩) 1 1] 22)) (· < Y.heap.size + 1) [[tg], [ta]].flatten [(2, ⟨#[103]⟩, 0, (0, 0, ()), (0, 0, ()), [], [], ()), (1, ⟨#[97]⟩, 0, (0, 0, ()), (0, 0, ()), [], [], ())] :=
    TDs.cons (rd_zero 2 ⟨#[103]⟩ rfl (by decide)) (TDs.cons (rd_zero 1 ⟨#[97]⟩ rfl (by decide)) TDs.nil)
  have hc := pjoin_calls (.slice (some ⟨Y.heap.size, 0, none⟩) 2 2) [.slice (some ⟨X.heap.size, 0, none⟩) 1 1, .slice (some ⟨X.heap.size + 1, 0, none⟩) 1 1] [[tg], [ta]] _ (· < Y.heap.size + 1) _
    ⟨_, 2, rfl, Nat.le_refl _, by decide, by simp, fun i x hx => ⟨Y.heap.size, 0, rfl, by omega, fun j u hj => by
      cases j with
      | zero =>
        simp at hj
        subst hj
        have := hn.cell hx
        simpa using this
      | succ j => simp at hj⟩⟩ rfl
    (fun i x ts hx ht => by
      match i with
      | 0 => simp at hx ht; subst hx; subst ht; exact row1 _ _ _ _ (by omega) (h1.alloc _)
      | 1 => simp at hx ht; subst hx; subst ht; exact row1 _ _ _ _ (by omega) (h2.alloc _)
      | i + 2 => simp at hx)
    hD (fun i t ht => by
      match i with
      | 0 => simp at ht; subst ht; decide
      | 1 => simp at ht; subst ht; decide
      | i + 2 => simp at ht) (by decide) (by decide) (fun b h => by simpa using h)
  refine hc.mono ?_
  rintro e w' ⟨v', rfl, hU, hok, _⟩
  obtain ⟨os, l', g1, g2, g3, g4⟩ := hok scan_pair
  obtain ⟨ds, k1, k2⟩ := joins_law (hD.upd0 hU) g1 scan_pair g2 g3
  have hkeys : l'.map keyT = [(1, ⟨#[97]⟩), (2, ⟨#[103]⟩)] := by
    rw [k2.keys, ← k1.keys]
    exact sorted_pair
  obtain ⟨hl, hr⟩ := own_row TC.len (by decide) g4
  obtain ⟨A, c, hv, hlc, hcm, _⟩ := hr.shape
  have hl2 : l'.length = 2 := by simpa using congrArg List.length hkeys
  rw [hl2] at hv hlc
  subst hv
  match l', hkeys, hl2, hr with
  | [a', g'], hkeys, _, hr =>
    simp [keyT] at hkeys
    obtain ⟨b, o, rfl, _, f1⟩ := hr.at_ (i := 0) rfl
    obtain ⟨b2, o2, e2, _, f2⟩ := hr.at_ (i := 1) rfl
    injection e2 with e2
    injection e2 with e2 e3
    subst e2; subst e3
    have q1 := f1 1 _ rfl
    have q2 := f2 1 _ rfl
    obtain ⟨b3, hb3, _⟩ := own_cell g4 1 _ rfl
    injection hb3 with hb3
    injection hb3 with _ hb3
    subst hb3
    rw [hkeys.1.2] at q1
    rw [hkeys.2.2] at q2
    refine ⟨_, c, b, by rw [scan_pair], hlc, hcm, rfl, (hUY.alloc _).then hU, by simpa using q1, by simpa using q2⟩

set_option maxHeartbeats 2000000 in
theorem aggJoins_calls (c0 : List Value) (x0 : GT.den (.slice gTally)) (c1 : List Value) (x1 : GT.den (.slice gTally)) (c2 : List Value) (x2 : GT.den (.slice gTally)) (W : World)
    (h0 : Rd W (· < W.heap.size) (.slice gTally) c0 x0) (h1 : Rd W (· < W.heap.size) (.slice gTally) c1 x1) (h2 : Rd W (· < W.heap.size) (.slice gTally) c2 x2)
    (hb : GT.bulk (.slice gTally) x0 + GT.bulk (.slice gTally) x1 + GT.bulk (.slice gTally) x2 ≤ 1048576) :
    Calls Try.prog 3 #[GT.val (.slice gTally) c0, GT.val (.slice gTally) c1, GT.val (.slice gTally) c2] W fun e w' => e = .returned (.bool true) ∧ Upd [] W w' := by
  obtain ⟨A0, q0, rfl, t0, l0, r0, d0⟩ := open_tallies h0
  obtain ⟨A1, q1, rfl, t1, l1, r1, d1⟩ := open_tallies h1
  obtain ⟨A2, q2, rfl, t2, l2, r2, d2⟩ := open_tallies h2
  show Calls Try.prog 3 #[.slice A0 x0.length q0, .slice A1 x1.length q1, .slice A2 x2.length q2] W _
  obtain ⟨L, hL⟩ : ∃ L, L = [t0, t1, t2].flatten := ⟨_, rfl⟩
  have hD : TDs W (· < W.heap.size) L (x0 ++ (x1 ++ x2)) := by
    rw [hL]
    simpa using d0.append (d1.append d2)
  have hsm : ∀ (i : Nat) (t : TC), L[i]? = some t → t.sn ≤ 1048576 ∧ t.mn ≤ 1048576 := by
    intro i t ht
    have hm := List.mem_of_getElem? ht
    rw [hL] at hm
    simp at hm
    rcases hm with hm | hm | hm
    · obtain ⟨j, hj⟩ := List.mem_iff_getElem?.1 hm
      exact small_of d0 (by omega) j t hj
    · obtain ⟨j, hj⟩ := List.mem_iff_getElem?.1 hm
      exact small_of d1 (by omega) j t hj
    · obtain ⟨j, hj⟩ := List.mem_iff_getElem?.1 hm
      exact small_of d2 (by omega) j t hj
  have hln : L.length ≤ 1048576 := by
    have b0 := bulk_len (g := gTally) (fun x => (bulk_tally x).1) x0
    have b1 := bulk_len (g := gTally) (fun x => (bulk_tally x).1) x1
    have b2 := bulk_len (g := gTally) (fun x => (bulk_tally x).1) x2
    rw [hL]
    simp
    omega
  have row : ∀ (X : World) (hX : Upd [] W X), RowK (X.alloc (.cells #[.slice A0 x0.length q0, .slice A1 x1.length q1, .slice A2 x2.length q2] 22)) (· < X.heap.size + 1) (fun x => [x]) 1 (.slice (some ⟨X.heap.size, 0, none⟩) 3 3) [.slice A0 x0.length q0, .slice A1 x1.length q1, .slice A2 x2.length q2] := by
    intro X hX
    refine ⟨_, 3, rfl, Nat.le_refl _, by decide, by simp, fun i x hx => ⟨X.heap.size, 0, rfl, by omega, fun j u hj => ?_⟩⟩
    have hn := HB.new X 22 [.slice A0 x0.length q0, .slice A1 x1.length q1, .slice A2 x2.length q2]
    cases j with
    | zero =>
      simp at hj
      subst hj
      have := hn.cell hx
      simpa using this
    | succ j => simp at hj
  have rows : ∀ (X : World) (hX : Upd [] W X) (o : Obj), ∀ (i : Nat) (x : Value) (ts : List TC), [Value.slice A0 x0.length q0, .slice A1 x1.length q1, .slice A2 x2.length q2][i]? = some x → [t0, t1, t2][i]? = some ts → RowK (X.alloc o) (· < X.heap.size + 1) TC.cells 9 x ts := by
    intro X hX o i x ts hx ht
    have hlt : ∀ b, b < W.heap.size → b < X.heap.size + 1 := fun b hb => by have := hX.size; omega
    match i with
    | 0 => simp at hx ht; subst hx; subst ht; exact (r0.mono hlt).upd0 (hX.alloc _)
    | 1 => simp at hx ht; subst hx; subst ht; exact (r1.mono hlt).upd0 (hX.alloc _)
    | 2 => simp at hx ht; subst hx; subst ht; exact (r2.mono hlt).upd0 (hX.alloc _)
    | i + 3 => simp at hx
  have hlt : ∀ (X : World) (hX : Upd [] W X), ∀ b, b < W.heap.size → b < X.heap.size + 1 := fun X hX b hb => by have := hX.size; omega
  have cP := fun (X : World) (hX : Upd [] W X) => pjoin_calls _ _ [t0, t1, t2] (x0 ++ (x1 ++ x2)) (· < X.heap.size + 1) _ (row X hX) rfl (rows X hX _) (hL ▸ (hD.upd0 (hX.alloc _)).mono (hlt X hX)) (hL ▸ hsm) (hL ▸ hln) (by simp) (fun b h => by simpa using h)
  have cR := fun (X : World) (hX : Upd [] W X) => rjoin_calls _ _ [t0, t1, t2] (· < X.heap.size + 1) _ (row X hX) rfl (rows X hX _) (hL ▸ hln) (by simp)
  rw [← hL] at cP cR
  have CP := Lib.hid cP
  have CR := Lib.hid cR
  have HD := Lib.hid hD
  clear cP cR hsm hln row rows hlt h0 h1 h2 r0 r1 r2 d0 d1 d2 hL hD hb l0 l1 l2
  go_enter Try.func3, Try.ntmps3
  go_wp2_with fail
  refine (CP.out W (Upd.refl _ _)).mono ?_
  rintro e W1 ⟨va, rfl, hU1, hok1, hno1⟩
  have HU1 := Lib.hid (show Upd [] W W1 from ((Upd.refl _ _).alloc _).then hU1)
  have HOK1 := Lib.hid hok1
  have HNO1 := Lib.hid hno1
  clear CP hU1 hok1 hno1
  go_wp2_with fail
  refine (CR.out W1 HU1.out).mono ?_
  rintro e W2 ⟨vb, rfl, hU2, hok2, hno2⟩
  have HU2 := Lib.hid (show Upd [] W1 W2 from ((Upd.refl _ _).alloc _).then hU2)
  have HR := Lib.hid (show ∃ (us vs : List TC) (ds : List Tally), RowK W2 (fun _ => True) TC.cells 9 va us ∧ RowK W2 (fun _ => True) TC.cells 9 vb vs ∧ TDs W2 (fun _ => True) us ds ∧ TDs W2 (fun _ => True) vs ds by
    by_cases hs : scan [] L = 0
    · obtain ⟨os, l', g1, g2, g3, g4⟩ := HOK1.out hs
      obtain ⟨ds, k1, k2⟩ := joins_law (HD.out.upd0 HU1.out) g1 hs g2 g3
      refine ⟨l', sortedT L, ds, ?_, ?_, ?_, ?_⟩
      · exact ((own_row TC.len (by decide) g4).2.upd0 HU2.out).mono (fun _ _ => trivial)
      · exact (own_row TC.len (by decide) (hok2 hs)).2.mono (fun _ _ => trivial)
      · exact (k2.upd0 HU2.out).mono (fun _ _ => trivial)
      · exact (k1.upd0 HU2.out).mono (fun _ _ => trivial)
    · obtain rfl := HNO1.out hs
      obtain rfl := hno2 hs
      exact ⟨[], [], [], RowK.nil _ _ _ _, RowK.nil _ _ _ _, TDs.nil, TDs.nil⟩)
  clear CR hU2 hok2 hno2 HOK1 HNO1
  obtain ⟨n, hn⟩ : ∃ n, n = scan [] L := ⟨_, rfl⟩
  rw [← hn]
  clear hn
  have hW2 := HU1.out.then HU2.out
  have HW2 := Lib.hid hW2
  clear hW2
  go_wp2_with fail
  refine (pair_calls W2).mono ?_
  rintro e W3 ⟨A, c, b, rfl, hc2, hcm, rfl, hU3, ha, hg⟩
  have HU3 := Lib.hid hU3
  clear hU3
  obtain ⟨us, vs, ds, ru, rv, tu, tv⟩ := HR.out
  have HC := Lib.hid (allAlike_calls va vb us vs ds _ _ W3 (ru.upd0 HU3.out) (rv.upd0 HU3.out) (tu.upd0 HU3.out) (tv.upd0 HU3.out))
  clear ru rv tu tv HR
  unfold maxLen at hcm
  go_wp2_with fail
  refine HC.out.mono ?_
  rintro e W4 ⟨rfl, hU4⟩
  have ha4 := hU4.cell ha (by simp)
  have hg4 := hU4.cell hg (by simp)
  have HU4 := Lib.hid hU4
  clear hU4 ha hg HC
  go_wp2
  go_ret
  exact ⟨rfl, (HW2.out.then HU3.out).then HU4.out⟩
end Go.Proofs.Ythbjpoiolmlpmaa
