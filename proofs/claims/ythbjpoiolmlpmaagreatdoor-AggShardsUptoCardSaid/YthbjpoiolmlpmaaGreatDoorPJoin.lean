/- tumblerref08.Join. agg.Join. Tallies that read the same, in whatever order: keys, order. -/
import Derived.Test.YthbjpoiolmlpmaaGreatDoorTC
import Derived.Test.YthbjpoiolmlpmaaGreatDoorSortT
import Derived.Test.YthbjpoiolmlpmaaGreatDoorAlike
import Derived.Test.YthbjpoiolmlpmaaGreatDoorMap
import Derived.Carry
set_option linter.unusedVariables false
set_option linter.unusedSimpArgs false
namespace Go.Proofs.YthbjpoiolmlpmaaGreatDoor
open Go.RowKit

theorem take_snocJ {α : Type} {l : List α} {k : Nat} {y : α} (h : l[k]? = some y) : l.take (k + 1) = l.take k ++ [y] := by
  rw [List.take_add_one, h]; rfl
def same (a b : TC) : Bool := decide (a.k = b.k) && decide (a.n = b.n)
/-- What is wrong with a tally behind others: 80 its kind, 82 it was there; 0 nothing. -/
def bad (acc : List TC) (t : TC) : Int := if t.k < 1 ∨ 4 < t.k then 80 else if acc.any (fun u => same u t) = true then 82 else 0
def scan (acc : List TC) : List TC → Int
  | [] => 0
  | t :: ts => if bad acc t = 0 then scan (acc ++ [t]) ts else bad acc t
theorem scan_ok {acc : List TC} {t : TC} {ts : List TC} (h : bad acc t = 0) : scan acc (t :: ts) = scan (acc ++ [t]) ts := by simp [scan, h]
theorem scan_bad {acc : List TC} {t : TC} {ts : List TC} (h : ¬ bad acc t = 0) : scan acc (t :: ts) = bad acc t := by simp [scan, h]

/-- The tallies ahead of place k of list i. -/
def pre (tss : List (List TC)) (i k : Nat) : List TC := (tss.take i).flatten ++ (tss.getD i []).take k
theorem pre_split {tss : List (List TC)} {i k : Nat} {ts : List TC} {t : TC} (h : tss[i]? = some ts) (hk : ts[k]? = some t) : ∃ rest, tss.flatten = pre tss i k ++ t :: rest := by
  have e1 : tss = tss.take i ++ ts :: tss.drop (i + 1) := by
    have hi := (List.getElem?_eq_some_iff.1 h).1
    have := List.take_append_drop i tss
    rw [List.drop_eq_getElem_cons hi] at this
    rw [(List.getElem?_eq_some_iff.1 h).2] at this
    exact this.symm
  have e2 : ts = ts.take k ++ t :: ts.drop (k + 1) := by
    have hi := (List.getElem?_eq_some_iff.1 hk).1
    have := List.take_append_drop k ts
    rw [List.drop_eq_getElem_cons hi] at this
    rw [(List.getElem?_eq_some_iff.1 hk).2] at this
    exact this.symm
  refine ⟨ts.drop (k + 1) ++ (tss.drop (i + 1)).flatten, ?_⟩
  have e3 : tss.getD i [] = ts := by simp [List.getD, h]
  unfold pre
  rw [e3]
  have e4 : tss.flatten = (tss.take i).flatten ++ (ts ++ (tss.drop (i + 1)).flatten) := by
    have := congrArg List.flatten e1
    rw [List.flatten_append, List.flatten_cons] at this
    exact this
  have e5 : ts ++ (tss.drop (i + 1)).flatten = ts.take k ++ t :: (ts.drop (k + 1) ++ (tss.drop (i + 1)).flatten) := by
    have := congrArg (· ++ (tss.drop (i + 1)).flatten) e2
    simpa using this
  rw [e4, e5, List.append_assoc]
theorem pre_succ {tss : List (List TC)} {i k : Nat} {ts : List TC} {t : TC} (h : tss[i]? = some ts) (hk : ts[k]? = some t) : pre tss i (k + 1) = pre tss i k ++ [t] := by
  have e3 : tss.getD i [] = ts := by simp [List.getD, h]
  unfold pre
  rw [e3, take_snocJ hk, List.append_assoc]
theorem pre_next {tss : List (List TC)} {i : Nat} {ts : List TC} (h : tss[i]? = some ts) : pre tss i ts.length = pre tss (i + 1) 0 := by
  have e3 : tss.getD i [] = ts := by simp [List.getD, h]
  unfold pre
  rw [e3, List.take_length, take_snocJ h]
  simp
theorem pre_zero (tss : List (List TC)) : pre tss 0 0 = [] := by simp [pre]
theorem pre_all (tss : List (List TC)) : pre tss tss.length 0 = tss.flatten := by simp [pre]
theorem pre_le (tss : List (List TC)) (i k : Nat) : (pre tss i k).length ≤ tss.flatten.length := by
  unfold pre
  by_cases hi : i < tss.length
  · have e1 : tss = tss.take i ++ tss[i] :: tss.drop (i + 1) := by
      have := List.take_append_drop i tss
      rw [List.drop_eq_getElem_cons hi] at this
      exact this.symm
    have e3 : tss.getD i [] = tss[i] := by simp [List.getD, List.getElem?_eq_getElem hi]
    have e4 := congrArg (fun l => (List.flatten l).length) e1
    simp only [List.flatten_append, List.flatten_cons, List.length_append] at e4
    rw [List.length_append, e3, List.length_take]
    omega
  · have e3 : tss.getD i [] = [] := by simp [List.getD, List.getElem?_eq_none (show tss.length ≤ i by omega)]
    rw [e3, List.take_of_length_le (by omega)]
    simp
/-- The scan has come behind the tallies ahead of (i, k) without a fault. -/
def At (tss : List (List TC)) (i k : Nat) : Prop := ∀ rest, tss.flatten = pre tss i k ++ rest → scan [] tss.flatten = scan (pre tss i k) rest
theorem At.zero (tss : List (List TC)) : At tss 0 0 := by
  intro rest h
  rw [pre_zero] at h ⊢
  rw [h]
  rfl
theorem At.succ {tss : List (List TC)} {i k : Nat} {ts : List TC} {t : TC} (ha : At tss i k) (h : tss[i]? = some ts) (hk : ts[k]? = some t) (hb : bad (pre tss i k) t = 0) : At tss i (k + 1) := by
  intro rest hr
  rw [pre_succ h hk] at hr ⊢
  rw [← scan_ok hb]
  exact ha _ (by rw [hr]; simp)
theorem At.bad {tss : List (List TC)} {i k : Nat} {ts : List TC} {t : TC} (ha : At tss i k) (h : tss[i]? = some ts) (hk : ts[k]? = some t) (hb : ¬ Go.Proofs.YthbjpoiolmlpmaaGreatDoor.bad (pre tss i k) t = 0) : scan [] tss.flatten = Go.Proofs.YthbjpoiolmlpmaaGreatDoor.bad (pre tss i k) t := by
  obtain ⟨rest, hr⟩ := pre_split h hk
  rw [ha _ hr, scan_bad hb]
theorem At.end_ {tss : List (List TC)} (ha : At tss tss.length 0) : scan [] tss.flatten = 0 := by
  have := ha [] (by rw [pre_all]; simp)
  rw [this]
  rfl
theorem any_take_succ {p : TC → Bool} {l : List TC} {j : Nat} {u : TC} (h : l[j]? = some u) : (l.take (j + 1)).any p = ((l.take j).any p || p u) := by rw [take_snocJ h]; simp
end Go.Proofs.YthbjpoiolmlpmaaGreatDoor
namespace Go.Proofs.YthbjpoiolmlpmaaGreatDoor
open Go.RowKit

/-- A metric as a map's key. -/
def kvMJ (x : Int × ByteArray) : Value := .agg #[.int .i64 x.1, .string x.2]
theorem checkMJ (w : World) (em : Bool) (n : Nat) (x : Int × ByteArray) : (Instr.checkKey em (n + 2) 90 (kvMJ x)).run Tryz.prog w = .ok () w := by
  unfold kvMJ
  unfold Instr.checkKey
  simp only [Sem.run_bind, run_underlying Tryz.underlying90, Result.andThen]
  have h1 : ∀ w n, (Instr.checkKey em (n + 1) 28 (.int .i64 x.1)).run Tryz.prog w = .ok () w := fun w n => by
    unfold Instr.checkKey
    simp [Sem.run_bind, run_underlying Tryz.underlying28, Result.andThen]
  have h2 : ∀ w n, (Instr.checkKey em (n + 1) 9 (.string x.2)).run Tryz.prog w = .ok () w := fun w n => by
    unfold Instr.checkKey
    simp [Sem.run_bind, run_underlying Tryz.underlying9, Result.andThen]
  simp [Sem.run_bind, Result.andThen, go_sem, h1, h2]
theorem eqMJ (w : World) (n : Nat) (x y : Int × ByteArray) : (Op.equalIn (n + 3) 90 (kvMJ x) (kvMJ y)).run Tryz.prog w = .ok (decide (x = y)) w := by
  unfold kvMJ
  have hf : Tryz.prog.underlying 90 = some (.struct (Tryz.prog.fieldsOf 90)) := by kernel_rfl
  have hp : Tryz.prog.stoodInHeld 90 = false := by kernel_rfl
  rw [run_equalIn_agg w _ _ _ _ hf hp]
  have e : decide (x = y) = (decide (x.1 = y.1) && decide (x.2 = y.2)) := by
    obtain ⟨a, b⟩ := x
    obtain ⟨c, d⟩ := y
    simp
  rw [e]
  by_cases h1 : x.1 = y.1
  · by_cases h2 : x.2 = y.2
    · simp [go_sem, h1, h2]
    · have h3 : ¬ x.2.toList = y.2.toList := fun e => h2 (toList_inj.1 e)
      simp [go_sem, h1, h2, h3]
  · simp [go_sem, h1]
theorem klMJ : KL Tryz.prog 90 kvMJ where
  check w em x := checkMJ w em 9998 x
  under := ⟨_, Tryz.underlying90, .inr ⟨fun x y => rfl, fun w x y => eqMJ w 9997 x y⟩⟩
  stays w x := by
    unfold kvMJ Instr.keyThatStays
    have : (x.2 == x.2) = true := by rw [beq_toListBytes]; simp
    simp [Instr.sameBits, this]

theorem infoTJ : (Tryz.prog.info? 54).map (fun i => (i.zero, i.size, i.bytes)) = some (some (.agg #[.int .i64 0, .string .empty, .int .i64 0, .int .i64 0, .int .u64 0, .int .i64 0, .int .u64 0, .slice none 0 0, .slice none 0 0]), 9, 112) := by kernel_rfl
def keyT (t : TC) : Int × ByteArray := (t.k, t.n)
theorem same_iff (a b : TC) : same a b = true ↔ keyT a = keyT b := by simp [same, keyT]
def mk (l : List TC) : List ((Int × ByteArray) × Value) := l.map fun t => (keyT t, .int .i64 1)
theorem mk_keys (l : List TC) : (mk l).map (·.1) = l.map keyT := by simp [mk]
theorem any_iff (l : List TC) (t : TC) : l.any (fun u => same u t) = true ↔ keyT t ∈ (mk l).map (·.1) := by
  rw [mk_keys, List.any_eq_true, List.mem_map]
  exact ⟨fun ⟨u, h1, h2⟩ => ⟨u, h1, (same_iff u t).1 h2⟩, fun ⟨u, h1, h2⟩ => ⟨u, h1, (same_iff u t).2 h2⟩⟩
theorem look_mk {l : List TC} {t : TC} (h : keyT t ∈ (mk l).map (·.1)) : look (keyT t) (mk l) = some (.int .i64 1) := by
  cases hl : look (keyT t) (mk l) with
  | none => exact absurd h (look_none.1 hl)
  | some v =>
    unfold look at hl
    obtain ⟨⟨j, u⟩, h1, rfl⟩ := Option.map_eq_some_iff.1 hl
    have := (place_at _ _ _ _ _ h1).2
    have := List.mem_of_getElem? this
    unfold mk at this
    rw [List.mem_map] at this
    obtain ⟨_, _, e⟩ := this
    injection e with _ e
    rw [e]
theorem flat_at {tss : List (List TC)} {i k : Nat} {ts : List TC} {t : TC} (h : tss[i]? = some ts) (hk : ts[k]? = some t) : tss.flatten[(pre tss i k).length]? = some t := by
  obtain ⟨rest, hr⟩ := pre_split h hk
  rw [hr, List.getElem?_append_right (Nat.le_refl _), Nat.sub_self]
  rfl
theorem zeroI (w : World) : (zeroValue 3).run Tryz.prog w = .ok (.int .i64 0) w := by
  kernel_rfl
theorem TDs.snoc {w : World} {F : Nat → Prop} {us : List TC} {ds : List Tally} {a : TC} {d : Tally} (h : TDs w F us ds) (hr : Rd w F gTally a.cells d) : TDs w F (us ++ [a]) (ds ++ [d]) := by
  refine ⟨by simp [h.1], fun i a' d' h1 h2 => ?_⟩
  rcases Nat.lt_or_ge i us.length with hi | hi
  · rw [List.getElem?_append_left hi] at h1
    rw [List.getElem?_append_left (h.1 ▸ hi)] at h2
    exact h.2 i a' d' h1 h2
  · rw [List.getElem?_append_right hi] at h1
    rw [List.getElem?_append_right (h.1 ▸ hi), ← h.1] at h2
    cases hj : i - us.length with
    | zero =>
      rw [hj] at h1 h2
      simp at h1 h2
      subst h1; subst h2
      exact hr
    | succ n =>
      rw [hj] at h1
      simp at h1
/-- The tally's slices laid elsewhere, where they read the same: it reads the same. -/
theorem tc_move {w w' : World} {F G : Nat → Prop} {t : TC} {d : Tally} (h : Rd w F gTally t.cells d) {A A' : Option Addr} {c c' : Nat}
    (h1 : Rd w' G gIs [.slice A t.sn c] d.2.2.2.2.2.1) (h2 : Rd w' G gSs [.slice A' t.mn c'] d.2.2.2.2.2.2.1) : Rd w' G gTally (TC.cells { t with sa := A, sc := c, ma := A', mc := c' }) d := by
  obtain ⟨k, n, c0, sh, sl, wh, wl, B, p, q, B', p', q'⟩ := t
  obtain ⟨k0, n0, c1, ⟨sh0, sl0, u1⟩, ⟨wh0, wl0, u2⟩, ss, ms, u3⟩ := d
  obtain ⟨c1, r1, e1, ⟨rfl, w1⟩, c2, r2, rfl, ⟨rfl, w2⟩, c3, r3, rfl, ⟨rfl, w3⟩, c4, r4, rfl, ⟨d1, e1', rfl, ⟨rfl, w4⟩, d2, e2, rfl, ⟨rfl, w5⟩, rfl⟩, c5, r5, rfl, ⟨d3, e3, rfl, ⟨rfl, w6⟩, d4, e4, rfl, ⟨rfl, w7⟩, rfl⟩, c6, r6, rfl, hs, c7, r7, rfl, hm, rfl⟩ := h
  obtain ⟨_, _, rfl, _⟩ := id hs
  obtain ⟨_, _, rfl, _⟩ := id hm
  simp only [TC.cells, List.cons_append, List.nil_append, List.cons.injEq, Value.int.injEq, Value.string.injEq, Value.slice.injEq, true_and, and_true] at e1
  obtain ⟨rfl, rfl, rfl, rfl, rfl, rfl, rfl, _⟩ := e1
  exact ⟨[_], _, rfl, ⟨rfl, w1⟩, [_], _, rfl, ⟨rfl, w2⟩, [_], _, rfl, ⟨rfl, w3⟩, [_, _], _, rfl, ⟨[_], _, rfl, ⟨rfl, w4⟩, [_], [], rfl, ⟨rfl, w5⟩, rfl⟩, [_, _], _, rfl, ⟨[_], _, rfl, ⟨rfl, w6⟩, [_], [], rfl, ⟨rfl, w7⟩, rfl⟩, [_], _, rfl, h1, [_], [], rfl, h2, rfl⟩

set_option maxHeartbeats 2000000 in
theorem pjoin_calls (v : Value) (vs : List Value) (tss : List (List TC)) (D : List Tally) (F : Nat → Prop) (w : World) (h : RowK w F (fun x => [x]) 1 v vs) (hl : vs.length = tss.length)
    (hr : ∀ (i : Nat) (x : Value) (ts : List TC), vs[i]? = some x → tss[i]? = some ts → RowK w F TC.cells 9 x ts) (hd : TDs w F tss.flatten D) (hs : ∀ (i : Nat) (t : TC), tss.flatten[i]? = some t → t.sn ≤ 1048576 ∧ t.mn ≤ 1048576) (hn : tss.flatten.length ≤ 1048576) (hn2 : tss.length ≤ 1048576) (hF : ∀ b, F b → b < w.heap.size) :
    Calls Tryz.prog 32 #[v] w fun e w' => ∃ v', e = .returned (.tuple #[v', .int .i64 (scan [] tss.flatten)]) ∧ Upd [] w w' ∧
      (scan [] tss.flatten = 0 → ∃ os l' : List TC, TDs w' (w.heap.size < ·) os D ∧ l'.Perm os ∧ l'.Pairwise (fun a b => ltT b a = false) ∧ w'.ownsRow (w.heap.size + 1) 54 9 v' tss.flatten.length (l'.flatMap TC.cells)) ∧ (¬ scan [] tss.flatten = 0 → v' = .slice none 0 0) := by
  obtain ⟨A, c, rfl, hlc, hcm, hA⟩ := h.shape
  rw [hl] at hlc ⊢
  have HR := Lib.hid h
  have HL := Lib.hid hl
  have HRR := Lib.hid hr
  have HD := Lib.hid hd
  have HS := Lib.hid hs
  have HFF := Lib.hid hF
  clear h hl hr hA hd hs hF
  have hmm := @run_makeMap Tryz.prog
  go_enter Tryz.func32, Tryz.ntmps32
  go_wp2
  go_loopw [5, 14] (fun va i wr => ∃ (k : Nat) (os : List TC), k ≤ tss.length ∧ i = .int .i64 k ∧ wr.ownsRow (w.heap.size + 1) 54 9 va (pre tss k 0).length (os.flatMap TC.cells) ∧ TDs wr (fun b => w.heap.size < b ∧ b < wr.heap.size ∧ va.ownBlock ≠ some b) os (D.take (pre tss k 0).length) ∧ MapAt wr kvMJ w.heap.size (mk (pre tss k 0)) ∧ At tss k 0 ∧ Upd [] w wr) (fun _ i _ => tss.length - (intOf i).toNat)
  case atStart => exact ⟨0, [], Nat.zero_le _, rfl, by rw [pre_zero]; exact World.ownsRow_nil _ _ _ _, by rw [pre_zero]; exact ⟨rfl, fun i a d h => by simp at h⟩, by rw [pre_zero]; exact MapAt.new _ _, At.zero _, (Upd.refl _ _).alloc _⟩
  case round =>
    obtain ⟨k, os, hk, rfl, hown, htd, hmap, hat, hU⟩ := hrel
    have HO := Lib.hid hown
    have HT := Lib.hid htd
    have HM := Lib.hid hmap
    have HA := Lib.hid hat
    have HU := Lib.hid hU
    clear hown htd hmap hat hU
    by_cases hlt : k < tss.length
    · obtain ⟨ts, hts⟩ : ∃ ts, tss[k]? = some ts := ⟨tss[k], List.getElem?_eq_getElem hlt⟩
      obtain ⟨x, hx⟩ : ∃ x, vs[k]? = some x := ⟨vs[k]'(by have := HL.out; omega), List.getElem?_eq_getElem _⟩
      obtain ⟨b, o, rfl, _, hc⟩ := HR.out.at1 hx
      have hrow := HRR.out k x ts hx hts
      obtain ⟨B, cc, rfl, hbl, hbm, _⟩ := hrow.shape
      have HTS := Lib.hid hts
      have HC := Lib.hid hc
      have hc := HU.out.cell hc (by simp)
      have HROW := Lib.hid hrow
      have htl : ts.length ≤ 1048576 := by
        have := pre_le tss k ts.length
        have e3 : tss.getD k [] = ts := by simp [List.getD, hts]
        unfold pre at this
        rw [e3, List.take_length, List.length_append] at this
        omega
      clear hts hx hrow
      go_wp2
      obtain ⟨wo, rfl⟩ : ∃ wo : World, wo = wr := ⟨_, rfl⟩
      go_loopw [5, 20] (fun va i wr => ∃ (m : Nat) (os : List TC), m ≤ ts.length ∧ i = .int .i64 m ∧ wr.ownsRow (w.heap.size + 1) 54 9 va (pre tss k m).length (os.flatMap TC.cells) ∧ TDs wr (fun b => w.heap.size < b ∧ b < wr.heap.size ∧ va.ownBlock ≠ some b) os (D.take (pre tss k m).length) ∧ MapAt wr kvMJ w.heap.size (mk (pre tss k m)) ∧ At tss k m ∧ Upd [] w wr) (fun _ i _ => ts.length - (intOf i).toNat)
      case atStart => exact ⟨0, os, Nat.zero_le _, rfl, HO.out, HT.out, HM.out, HA.out, HU.out⟩
      case round =>
        clear HO HA HT HM
        obtain ⟨m, os, hm, rfl, hown, htd, hmap, hat, hU⟩ := hrel
        have HO := Lib.hid hown
        have HT := Lib.hid htd
        have HM := Lib.hid hmap
        have HA := Lib.hid hat
        have HUI := Lib.hid hU
        clear hown htd hmap hat hU
        by_cases hlt2 : m < ts.length
        · obtain ⟨t, ht⟩ : ∃ t, ts[m]? = some t := ⟨ts[m], List.getElem?_eq_getElem hlt2⟩
          obtain ⟨b2, o2, rfl, _, f2⟩ := HROW.out.at_ ht
          have F2 := Lib.hid f2
          have HF := Lib.hid (flat_at HTS.out ht)
          have HTT := Lib.hid ht
          clear f2 ht
          obtain ⟨x0, x1, x2, x3, x4, x5, x6, x7, x8⟩ : _ ∧ _ ∧ _ ∧ _ ∧ _ ∧ _ ∧ _ ∧ _ ∧ _ := ⟨HUI.out.cell (F2.out 0 _ rfl) (by simp), HUI.out.cell (F2.out 1 _ rfl) (by simp), HUI.out.cell (F2.out 2 _ rfl) (by simp), HUI.out.cell (F2.out 3 _ rfl) (by simp), HUI.out.cell (F2.out 4 _ rfl) (by simp), HUI.out.cell (F2.out 5 _ rfl) (by simp), HUI.out.cell (F2.out 6 _ rfl) (by simp), HUI.out.cell (F2.out 7 _ rfl) (by simp), HUI.out.cell (F2.out 8 _ rfl) (by simp)⟩
          rw [Nat.add_zero] at x0
          have HP := Lib.hid (pre_succ HTS.out HTT.out)
          have hpl := pre_le tss k m
          by_cases hk1 : t.k < 1
          · have hs := Lib.hid (show scan [] tss.flatten = 80 by
              have hb : bad (pre tss k m) t = 80 := by unfold bad; rw [if_pos (.inl hk1)]
              rw [HA.out.bad HTS.out HTT.out (by rw [hb]; decide), hb])
            go_wp2
            go_ret2
            exact ⟨.slice none 0 0, by rw [hs.out]; rfl, HUI.out.alloc _, (fun e => by rw [hs.out] at e; cases e), fun _ => rfl⟩
          · by_cases hk4 : 4 < t.k
            · have hs := Lib.hid (show scan [] tss.flatten = 80 by
                have hb : bad (pre tss k m) t = 80 := by unfold bad; rw [if_pos (.inr hk4)]
                rw [HA.out.bad HTS.out HTT.out (by rw [hb]; decide), hb])
              have e1 : decide (t.k < 1) = false := by simpa using hk1
              go_wp2
              go_ret2
              exact ⟨.slice none 0 0, by rw [hs.out]; rfl, HUI.out.alloc _, (fun e => by rw [hs.out] at e; cases e), fun _ => rfl⟩
            · have e1 : decide (t.k < 1) = false := by simpa using hk1
              have e2 : decide (4 < t.k) = false := by simpa using hk4
              by_cases hmem : keyT t ∈ (mk (pre tss k m)).map (·.1)
              · have hs := Lib.hid (show scan [] tss.flatten = 82 by
                  have hb : bad (pre tss k m) t = 82 := by
                    unfold bad
                    rw [if_neg (by omega), if_pos ((any_iff _ _).2 hmem)]
                  rw [HA.out.bad HTS.out HTT.out (by rw [hb]; decide), hb])
                have hlk : ∀ o1 o2, (Instr.lookup 107 (.map (some w.heap.size)) (.agg #[.int .i64 t.k, .string t.n]) false).run Tryz.prog ((wr.alloc o1).alloc o2) = .ok (.int .i64 1) ((wr.alloc o1).alloc o2) := fun o1 o2 => by
                  have := run_lookup (z := .int .i64 0) klMJ Tryz.underlying107 (HM.out.upd (((Upd.refl [] wr).alloc o1).alloc o2) (by simp)) (keyT t) false (zeroI _)
                  rw [look_mk hmem] at this
                  exact this
                go_wp2
                go_ret2
                exact ⟨.slice none 0 0, by rw [hs.out]; rfl, (HUI.out.alloc _).alloc _, (fun e => by rw [hs.out] at e; cases e), fun _ => rfl⟩
              · have hlk : ∀ o1 o2, (Instr.lookup 107 (.map (some w.heap.size)) (.agg #[.int .i64 t.k, .string t.n]) false).run Tryz.prog ((wr.alloc o1).alloc o2) = .ok (.int .i64 0) ((wr.alloc o1).alloc o2) := fun o1 o2 => by
                  have := run_lookup (z := .int .i64 0) klMJ Tryz.underlying107 (HM.out.upd (((Upd.refl [] wr).alloc o1).alloc o2) (by simp)) (keyT t) false (zeroI _)
                  rw [look_none.2 hmem] at this
                  exact this
                have HNM := Lib.hid hmem
                clear hmem
                go_wp2
                clear hlk
                obtain ⟨W0, hW0⟩ : ∃ W0, W0 = (wr.alloc (Obj.cells #[.int .i64 t.k, .string t.n, .int .i64 t.c, .int .i64 t.sh, .int .u64 t.sl, .int .i64 t.wh, .int .u64 t.wl, .slice t.sa t.sn t.sc, .slice t.ma t.mn t.mc] 54)).alloc (Obj.cells #[.int .i64 t.k, .string t.n] 90) := ⟨_, rfl⟩
                rw [← hW0]
                have HB0 := Lib.hid (show HB W0 wr.heap.size 54 t.cells from by rw [hW0]; exact (HB.new wr _ t.cells).alloc _)
                have hK0 : HB W0 (wr.heap.size + 1) 90 [.int .i64 t.k, .string t.n] := by rw [hW0]; exact HB.new1 wr _ _ [.int .i64 t.k, .string t.n]
                have HU0 := Lib.hid (show Upd [] wr W0 from by rw [hW0]; exact ((Upd.refl _ _).alloc _).alloc _)
                have HZ0 := Lib.hid (show W0.heap.size = wr.heap.size + 2 by rw [hW0]; simp)
                clear hW0
                have hM0 := HM.out.upd HU0.out.drew (by simp)
                have hlk0 : (Instr.lookup 107 (.map (some w.heap.size)) (.agg #[.int .i64 t.k, .string t.n]) false).run Tryz.prog W0.drew = .ok (.int .i64 0) W0.drew := by
                  have := run_lookup (z := .int .i64 0) klMJ Tryz.underlying107 hM0 (keyT t) false (zeroI _)
                  rw [look_none.2 HNM.out] at this
                  exact this
                obtain ⟨W1, st, hme, hM1, hU1, hst⟩ := run_entry_new klMJ Tryz.underlying107 hM0 (keyT t) HNM.out zeroI
                have hlk1 : (Instr.lookup 107 (.map (some w.heap.size)) (.agg #[.int .i64 t.k, .string t.n]) false).run Tryz.prog W1 = .ok (.int .i64 0) W1 := by
                  have := run_lookup (z := .int .i64 0) klMJ Tryz.underlying107 hM1 (keyT t) false (zeroI _)
                  rw [← put_new _ _ _ HNM.out, look_put] at this
                  exact this
                obtain ⟨W2, hes, hM2, hU2⟩ := hst (.int .i64 1)
                have hwl : w.heap.size < wr.heap.size := HM.out.lt
                have HM2 := Lib.hid (show MapAt W2 kvMJ w.heap.size (mk (pre tss k (m + 1))) by
                  rw [HP.out, mk, List.map_append]
                  exact hM2)
                have HU2 := Lib.hid (show Upd [w.heap.size] wr W2 from (HU0.out.drew.of0).then hU2)
                have HB2 := Lib.hid (HB0.out.drew.upd hU2 (by simp; omega))
                have HZ2 := Lib.hid (show wr.heap.size + 2 ≤ W2.heap.size by have h1 := hU2.size; have h2 := HZ0.out; have h3 : W0.drew.heap.size = W0.heap.size := rfl; omega)
                have k0 := hK0.cell (j := 0) rfl
                have k1 := hK0.cell (j := 1) rfl
                rw [show kvMJ (keyT t) = .agg #[.int .i64 t.k, .string t.n] from rfl] at hme
                clear hM0 hM1 hst hM2 hU1 hU2 hK0
                go_region
                clear hlk0 hlk1 hme hes k0 k1 HB0
                obtain ⟨d, hd⟩ : ∃ d, D[(pre tss k m).length]? = some d := ⟨D[(pre tss k m).length]'(by
                  have := (List.getElem?_eq_some_iff.1 HF.out).1
                  have := HD.out.1
                  omega), List.getElem?_eq_getElem _⟩
                have hrd := HD.out.2 _ _ _ HF.out hd
                have HDD := Lib.hid hd
                have HRD := Lib.hid hrd
                obtain ⟨hsn, hmn⟩ := HS.out _ _ HF.out
                have hne : ∀ b, b ∈ [w.heap.size] → ¬ F b := fun b hb hF => by simp at hb; have := HFF.out b hF; omega
                have hUw := HUI.out.of0.trans HU2.out (fun _ h => h) (fun _ h => .inl h)
                have hI := Rd.upd hUw hne _ _ _ (tc_rd' hrd).2.2.2.2.2.2.2.2.2.1
                have HSS := Lib.hid (Rd.upd hUw hne _ _ _ (tc_rd' hrd).2.2.2.2.2.2.2.2.2.2)
                have HC := Lib.hid (cloneI_calls t.sa t.sn t.sc _ F W2 hI hsn)
                have y0 := HB2.out.cell (j := 7) rfl
                clear hI hUw hne hrd hd x0 x1 x2 x3 x4 x5 x6 x7 x8
                go_wp2_with fail
                refine HC.out.mono ?_
                rintro e W3 ⟨A3, c3, rfl, hU3, hr3⟩
                have HB3 := Lib.hid (HB2.out.upd hU3 (by simp))
                have HR3 := Lib.hid hr3
                have HU3 := Lib.hid hU3
                clear hr3 hU3 HC y0
                have y0 := HB3.out.cell (j := 7) rfl
                have y1 := HB3.out.free 7
                have y2 := HB3.out.cell (j := 8) rfl
                go_wp2_with fail
                obtain ⟨W4, hW4⟩ : ∃ W4, W4 = W3.setCell ⟨wr.heap.size, 7, none⟩ (.slice A3 t.sn c3) := ⟨_, rfl⟩
                rw [← hW4]
                have hs34 : Upd [wr.heap.size] W3 W4 := by rw [hW4]; exact (Upd.refl _ _).setCell (.inl (by simp)) _
                have HX4 := Lib.hid (show Upd [w.heap.size] wr W4 from by rw [hW4]; exact (HU2.out.then0 HU3.out).setCell (.inr (Nat.le_refl _)) _)
                have HB4 := Lib.hid (show HB W4 wr.heap.size 54 (TC.cells { t with sa := A3, sc := c3 }) from by rw [hW4]; exact HB3.out.set 7 _)
                have HR4 := Lib.hid (Rd.upd hs34 (by intro b hb hG; simp at hb; subst hb; have := HZ2.out; omega) _ _ _ HR3.out)
                have HY4 := Lib.hid (show Upd [wr.heap.size] W2 W4 from HU3.out.of0.trans hs34 (fun _ h => h) (fun _ h => .inl h))
                have HZ4 := Lib.hid (show W2.heap.size ≤ W4.heap.size from Nat.le_trans HU3.out.size hs34.size)
                have hS4 := Rd.upd (HU3.out.of0.trans hs34 (fun _ h => h) (fun _ h => .inl h)) (by intro b hb hF; simp at hb; subst hb; have := HFF.out _ hF; have := HM.out.lt; omega) _ _ _ HSS.out
                have HC := Lib.hid (cloneS_calls t.ma t.mn t.mc _ F W4 hS4 hmn)
                clear hs34 hS4 hW4 HB3 HR3 HU3 HSS y0 y1 y2
                refine HC.out.mono ?_
                rintro e W5 ⟨A5, c5, rfl, hU5, hr5⟩
                have HB5 := Lib.hid (HB4.out.upd hU5 (by simp))
                have HR5 := Lib.hid (Rd.mono (fun b (h : W4.heap.size ≤ b) => (show W2.heap.size ≤ b from Nat.le_trans HZ4.out h)) _ _ _ hr5)
                have HR5' := Lib.hid (Rd.upd0 hU5 _ _ _ HR4.out)
                have HX5 := Lib.hid (HX4.out.then0 hU5)
                have HY5 := Lib.hid (HY4.out.then0 hU5)
                clear hr5 hU5 HC HB4 HR4 HX4 HY4
                have y0 := HB5.out.cell (j := 8) rfl
                have y1 := HB5.out.free 8
                have x0 := HB5.out.cell (j := 0) rfl
                have x1 := HB5.out.cell (j := 1) rfl
                have x2 := HB5.out.cell (j := 2) rfl
                have x3 := HB5.out.cell (j := 3) rfl
                have x4 := HB5.out.cell (j := 4) rfl
                have x5 := HB5.out.cell (j := 5) rfl
                have x6 := HB5.out.cell (j := 6) rfl
                have x7 := HB5.out.cell (j := 7) rfl
                obtain ⟨B3, q3, rfl, q1, q2, _⟩ := own_shape HO.out
                have hpl2 : (pre tss k m).length ≤ 1048576 := by omega
                have hown6 := own_upd HO.out (HX5.out.setCell (p := ⟨wr.heap.size, 8, none⟩) (.inr (Nat.le_refl _)) (.slice A5 t.mn c5)) (fun g hg => by have := own_base HO.out g hg; simp; omega)
                have HO6 := Lib.hid hown6
                have HN6 := Lib.hid (show HB ((W5.setCell ⟨wr.heap.size, 8, none⟩ (.slice A5 t.mn c5)).alloc (.cells (TC.cells { t with sa := A3, sc := c3, ma := A5, mc := c5 }).toArray 54)) W5.heap.size 54 (TC.cells { t with sa := A3, sc := c3, ma := A5, mc := c5 }) by
                  have := HB.new (W5.setCell ⟨wr.heap.size, 8, none⟩ (.slice A5 t.mn c5)) 54 (TC.cells { t with sa := A3, sc := c3, ma := A5, mc := c5 })
                  rwa [show (W5.setCell ⟨wr.heap.size, 8, none⟩ (.slice A5 t.mn c5)).heap.size = W5.heap.size by simp [World.setCell]] at this)
                have h5s : w.heap.size + 1 ≤ W5.heap.size := by have := HX5.out.size; have := HM.out.lt; omega
                clear hown6
                go_wp2_with (at_builtin; go_must (refine wp_append1 (w.heap.size + 1) 48 54 _ 9 112 (.slice B3 (pre tss k m).length q3) _ _ (TC.cells { t with sa := A3, sc := c3, ma := A5, mc := c5 }) _ rfl rfl (by kernel_rfl) infoTJ rfl (by decide) (by decide) rfl rfl (TC.len _) (TC.one _) (HO6.out.alloc _) HN6.out (by simp [World.setCell]; omega) (by omega) ?_))
                intro v1 w1 hown1 hU1 hat1
                have HO1 := Lib.hid hown1
                have HU1 := Lib.hid hU1
                have HAT1 := Lib.hid hat1
                clear hown1 hU1 hat1 y0 y1 x0 x1 x2 x3 x4 x5 x6 x7
                go_wp2
                go_roundw
                case rel =>
                  have hus := HX5.out.size
                  have hU6 := (HX5.out.setCell (p := ⟨wr.heap.size, 8, none⟩) (.inr (Nat.le_refl _)) (.slice A5 t.mn c5)).alloc (.cells (TC.cells { t with sa := A3, sc := c3, ma := A5, mc := c5 }).toArray 54)
                  have hY6 := (HY5.out.setCell (p := ⟨wr.heap.size, 8, none⟩) (.inl (by simp)) (.slice A5 t.mn c5)).alloc (.cells (TC.cells { t with sa := A3, sc := c3, ma := A5, mc := c5 }).toArray 54)
                  refine ⟨m + 1, os ++ [{ t with sa := A3, sc := c3, ma := A5, mc := c5 }], by omega, by go_num, ?_, ?_, ?_, HA.out.succ HTS.out HTT.out ?_, ?_⟩
                  · rw [HP.out, List.length_append, List.flatMap_append]
                    simpa using HO1.out
                  · have e1 : (D.take (pre tss k (m + 1)).length) = D.take (pre tss k m).length ++ [d] := by
                      rw [HP.out, List.length_append]
                      exact take_snocJ HDD.out
                    rw [e1]
                    have hat := HAT1.out
                    have hob := own_base HO.out
                    have hol := own_lt HO.out
                    have hz2 := HZ2.out
                    have hz5 : W2.heap.size ≤ W5.heap.size := HY5.out.size
                    have h1s := HU1.out.size
                    have h6s : ((W5.setCell ⟨wr.heap.size, 8, none⟩ (.slice A5 t.mn c5)).alloc (.cells (TC.cells { t with sa := A3, sc := c3, ma := A5, mc := c5 }).toArray 54)).heap.size = W5.heap.size + 1 := by simp [World.setCell]
                    have hx : ∀ b, b < W5.heap.size → Value.ownBlock (.slice B3 (pre tss k m).length q3) ≠ some b → v1.ownBlock ≠ some b := by
                      intro b hb hn e
                      rcases hat with h | ⟨b', h, hb'⟩
                      · exact hn (h ▸ e)
                      · rw [h] at e
                        injection e with e
                        have hb2 : W5.heap.size + 1 ≤ b' := h6s ▸ hb'
                        omega
                    have h1s' : W5.heap.size + 1 ≤ w1.heap.size := h6s ▸ h1s
                    refine TDs.snoc ⟨HT.out.1, fun i a dd h1 h2 => ?_⟩ ?_
                    · have hW := hU6.trans (U := w.heap.size :: (Value.ownBlock (.slice B3 (pre tss k m).length q3)).toList) HU1.out (fun i h => by simp at h; simp [h]) (fun i h => .inl (by simp at h; simp [h]))
                      refine Rd.mono (fun b h => ⟨h.1, by omega, hx b (by omega) h.2.2⟩) _ _ _ (Rd.upd hW (fun b hb hF => ?_) _ _ _ (HT.out.2 i a dd h1 h2))
                      simp at hb
                      rcases hb with rfl | hb
                      · exact Nat.lt_irrefl _ hF.1
                      · exact hF.2.2 hb
                    · have hr := Rd.here gTally _ _ rfl (tc_move HRD.out HR5'.out HR5.out)
                      have h7 : Upd [wr.heap.size] W5 _ := ((Upd.refl [wr.heap.size] W5).setCell (p := ⟨wr.heap.size, 8, none⟩) (.inl (by simp)) (.slice A5 t.mn c5)).alloc (.cells (TC.cells { t with sa := A3, sc := c3, ma := A5, mc := c5 }).toArray 54)
                      have hW := h7.trans (U := wr.heap.size :: (Value.ownBlock (.slice B3 (pre tss k m).length q3)).toList) HU1.out (fun i h => by simp at h; simp [h]) (fun i h => .inl (by simp at h; simp [h]))
                      refine Rd.mono (fun b h => ⟨by omega, by omega, hx b (by omega) (fun e => by have := hol b e; omega)⟩) _ _ _ (Rd.upd hW (fun b hb hF => ?_) _ _ _ hr)
                      simp at hb
                      rcases hb with rfl | hb
                      · omega
                      · have := hol b hb; omega
                  · refine (HM2.out.upd hY6 (by simp; omega)).upd HU1.out ?_
                    intro hm
                    have := own_base HO.out w.heap.size (by simpa using hm)
                    omega
                  · unfold bad
                    rw [if_neg (by omega), if_neg]
                    exact fun h => HNM.out ((any_iff _ _).1 h)
                  · refine (HUI.out.trans hU6 (fun _ h => h) (fun i hi => .inr ?_)).trans HU1.out (fun _ h => h) (fun i hi => .inr ?_)
                    · simp at hi; omega
                    · have := own_base HO.out i (by simpa using hi); omega
                case measure => simp [intOf]; omega
        · go_wp2
          go_roundw
          case rel =>
            have e : m = ts.length := by omega
            subst e
            rw [pre_next HTS.out] at HO HT HM
            refine ⟨k + 1, os, by omega, by go_num, HO.out, HT.out, HM.out, ?_, HUI.out⟩
            have := HA.out
            intro rest hr
            rw [← pre_next HTS.out] at hr ⊢
            exact this rest hr
          case measure => simp [intOf]; omega
    · obtain rfl : k = tss.length := by omega
      have hs := Lib.hid HA.out.end_
      have ht := HT.out
      rw [pre_all, List.take_of_length_le (by have := HD.out.1; omega)] at ht
      have ho := HO.out
      rw [pre_all] at ho
      have HSO := Lib.hid (sortT_calls ho (by omega))
      have HTD := Lib.hid ht
      clear ht ho
      go_wp2_with fail
      refine HSO.out.mono ?_
      rintro e W2 ⟨rfl, l', hp, hpw, how, hUs⟩
      have HP := Lib.hid hp
      have HPW := Lib.hid hpw
      have HOW := Lib.hid how
      have HUS := Lib.hid hUs
      clear hp hpw how hUs HSO
      go_wp2
      go_ret2
      refine ⟨_, by rw [hs.out]; rfl, ?_, fun _ => ⟨os, l', ?_, HP.out, HPW.out, HOW.out⟩, fun h => absurd hs.out h⟩
      · exact HU.out.trans HUS.out (fun _ h => h) (fun i hi => .inr (by have := own_base HO.out i (by simpa using hi); omega))
      · refine ⟨HTD.out.1, fun i a d h1 h2 => ?_⟩
        refine Rd.mono (fun b h => h.1) _ _ _ (Rd.upd HUS.out (fun b hb hF => ?_) _ _ _ (HTD.out.2 i a d h1 h2))
        exact hF.2.2 (by simpa using hb)
end Go.Proofs.YthbjpoiolmlpmaaGreatDoor
namespace Go.Proofs.YthbjpoiolmlpmaaGreatDoor
open Go.RowKit
theorem TDs.nil {w : World} {F : Nat → Prop} : TDs w F [] [] := ⟨rfl, fun i a d h => by simp at h⟩
theorem TDs.cons {w : World} {F : Nat → Prop} {us : List TC} {ds : List Tally} {a : TC} {d : Tally} (hr : Rd w F gTally a.cells d) (h : TDs w F us ds) : TDs w F (a :: us) (d :: ds) := by
  refine ⟨by simp [h.1], fun i a' d' h1 h2 => ?_⟩
  cases i with
  | zero => simp at h1 h2; subst h1; subst h2; exact hr
  | succ i => exact h.2 i a' d' (by simpa using h1) (by simpa using h2)
theorem TDs.uncons {w : World} {F : Nat → Prop} {us : List TC} {ds : List Tally} {a : TC} (h : TDs w F (a :: us) ds) : ∃ d ds', ds = d :: ds' ∧ Rd w F gTally a.cells d ∧ TDs w F us ds' := by
  cases ds with
  | nil => have := h.1; simp at this
  | cons d ds => exact ⟨d, ds, rfl, h.2 0 a d rfl rfl, by have := h.1; simpa using this, fun i a' d' h1 h2 => h.2 (i + 1) a' d' (by simpa using h1) (by simpa using h2)⟩
theorem TDs.perm {w : World} {F : Nat → Prop} {us us' : List TC} (hp : us.Perm us') : ∀ {ds : List Tally}, TDs w F us ds → ∃ ds', ds.Perm ds' ∧ TDs w F us' ds' := by
  induction hp with
  | nil => intro ds h; exact ⟨ds, .refl _, h⟩
  | cons x _ ih =>
    intro ds h
    obtain ⟨d, ds', rfl, h1, h2⟩ := h.uncons
    obtain ⟨ds'', p, h3⟩ := ih h2
    exact ⟨d :: ds'', p.cons d, h3.cons h1⟩
  | swap x y l =>
    intro ds h
    obtain ⟨d, ds', rfl, h1, h2⟩ := h.uncons
    obtain ⟨e, ds'', rfl, h3, h4⟩ := h2.uncons
    exact ⟨e :: d :: ds'', .swap _ _ _, (h4.cons h1).cons h3⟩
  | trans _ _ ih1 ih2 =>
    intro ds h
    obtain ⟨ds', p, h1⟩ := ih1 h
    obtain ⟨ds'', q, h2⟩ := ih2 h1
    exact ⟨ds'', p.trans q, h2⟩

/-- The order told by data. -/
def ltD (a b : Tally) : Bool := decide (a.1 < b.1) || (decide (a.1 = b.1) && sLt a.2.1 b.2.1)
def keyD (a : Tally) : Int × ByteArray := (a.1, a.2.1)
theorem TDs.keys {w : World} {F : Nat → Prop} {us : List TC} {ds : List Tally} (h : TDs w F us ds) : us.map keyT = ds.map keyD := by
  apply List.ext_getElem?
  intro i
  rw [List.getElem?_map, List.getElem?_map]
  cases h1 : us[i]? with
  | none =>
    have := List.getElem?_eq_none_iff.1 h1
    rw [List.getElem?_eq_none (by have := h.1; omega)]
    rfl
  | some a =>
    have hi := (List.getElem?_eq_some_iff.1 h1).1
    have hj : i < ds.length := by have := h.1; omega
    rw [List.getElem?_eq_getElem hj]
    have := tc_rd' (h.2 i a _ h1 (List.getElem?_eq_getElem hj))
    simp [keyT, keyD, this.1, this.2.1]
theorem TDs.sorted {w : World} {F : Nat → Prop} {us : List TC} {ds : List Tally} (h : TDs w F us ds) (hs : us.Pairwise (fun a b => ltT b a = false)) : ds.Pairwise (fun a b => ltD b a = false) := by
  rw [List.pairwise_iff_getElem] at hs ⊢
  intro i j hi hj hij
  have hl := h.1
  have h1 := hs i j (by omega) (by omega) hij
  have r1 := tc_rd' (h.2 i _ _ (List.getElem?_eq_getElem (by omega)) (List.getElem?_eq_getElem hi))
  have r2 := tc_rd' (h.2 j _ _ (List.getElem?_eq_getElem (by omega)) (List.getElem?_eq_getElem hj))
  unfold ltT at h1
  unfold ltD
  rw [← r1.1, ← r1.2.1, ← r2.1, ← r2.2.1]
  exact h1
theorem ltD_total {a b : Tally} (h : ltD a b = false) (k : ltD b a = false) : keyD a = keyD b := by
  have := @ltT_total { (default : TC) with k := a.1, n := a.2.1 } { (default : TC) with k := b.1, n := b.2.1 } h k
  exact Prod.ext this.1 this.2
theorem scan_nodup : ∀ (l acc : List TC), scan acc l = 0 → (acc.map keyT).Nodup → ((acc ++ l).map keyT).Nodup
  | [], acc, _, h => by simpa using h
  | t :: l, acc, hs, h => by
    unfold scan at hs
    split at hs
    · rename_i hb
      have := scan_nodup l (acc ++ [t]) hs (by
        rw [List.map_append, List.nodup_append]
        refine ⟨h, by simp, fun a ha b hb' => ?_⟩
        simp at hb'
        subst hb'
        rintro rfl
        unfold bad at hb
        split at hb
        · cases hb
        · split at hb
          · cases hb
          · rename_i hn
            apply hn
            rw [any_iff, mk_keys]
            exact ha)
      simpa using this
    · rename_i hb
      exact absurd hs hb
theorem inj_of_nodup {ds : List Tally} (h : (ds.map keyD).Nodup) : ∀ a b, a ∈ ds → b ∈ ds → keyD a = keyD b → a = b := by
  induction ds with
  | nil => intro a b h; simp at h
  | cons d ds ih =>
    rw [List.map_cons, List.nodup_cons] at h
    intro a b ha hb e
    rcases List.mem_cons.1 ha with ea | ha' <;> rcases List.mem_cons.1 hb with eb | hb'
    · exact ea.trans eb.symm
    · exact absurd (List.mem_map.2 ⟨b, hb', e.symm.trans (congrArg keyD ea)⟩) h.1
    · exact absurd (List.mem_map.2 ⟨a, ha', e.trans (congrArg keyD eb)⟩) h.1
    · exact ih h.2 a b ha' hb' e
end Go.Proofs.YthbjpoiolmlpmaaGreatDoor
