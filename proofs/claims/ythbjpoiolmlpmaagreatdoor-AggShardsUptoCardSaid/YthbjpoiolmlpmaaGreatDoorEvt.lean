/- Events, as plain data; line.Check. -/
import Derived.Test.YthbjpoiolmlpmaaGreatDoorTally
import Derived.Test.YthbjpoiolmlpmaaGreatDoorNm
import Derived.Test.YthbjpoiolmlpmaaGreatDoorShelf
set_option linter.unusedVariables false
set_option linter.unusedSimpArgs false
namespace Go.Proofs.YthbjpoiolmlpmaaGreatDoor
open Go.RowKit
abbrev gEvent : GT := .struct (.cons .str (.cons gI (.cons gI (.cons .bool (.cons .str (.cons gI (.cons .bool (.cons gI .nil))))))))
structure Ev where
  name : ByteArray
  kind : Int
  value : Int
  delta : Bool
  member : ByteArray
  rate : Int
  timed : Bool
  time : Int
deriving DecidableEq
def evC (e : Ev) : List Value := [.string e.name, .int .i64 e.kind, .int .i64 e.value, .bool e.delta, .string e.member, .int .i64 e.rate, .bool e.timed, .int .i64 e.time]
abbrev TEv : TypeId := 30
/-- The cell of internal/bytealg.MaxLen holds some int. -/
def MaxL (w : World) : Prop := ∃ m, w.cell? ⟨0, 0, none⟩ = some (.int .i64 m)
theorem MaxL.upd {S : List Nat} {w w' : World} (h : MaxL w) (hU : Upd S w w') (h0 : 0 ∉ S) : MaxL w' := by
  obtain ⟨m, hm⟩ := h
  exact ⟨m, hU.cell hm h0⟩
theorem MaxL.upd0 {w w' : World} (h : MaxL w) (hU : Upd [] w w') : MaxL w' := h.upd hU (by simp)
def pieces (s : ByteArray) : List ByteArray := Lib.splitB ⟨#[46]⟩ 0 (Lib.countB s ⟨#[46]⟩) s
theorem splitB_size (sep : ByteArray) (save : Nat) : ∀ (k : Nat) (s p : ByteArray), p ∈ Lib.splitB sep save k s → p.size ≤ s.size
  | 0, s, p, h => by
    rw [Lib.splitB_zero] at h
    simp at h
    subst h
    exact Nat.le_refl _
  | k + 1, s, p, h => by
    unfold Lib.splitB at h
    split at h
    · simp at h; subst h; exact Nat.le_refl _
    · rcases List.mem_cons.1 h with rfl | h
      · rw [ByteArray.size_extract]; omega
      · have h1 := splitB_size sep save k _ p h
        have h2 : (s.extract ((Lib.indexB s sep).toNat + sep.size) s.size).size ≤ s.size := by rw [ByteArray.size_extract]; omega
        omega
theorem pieces_len (s : ByteArray) : (pieces s).length = Lib.countB s ⟨#[46]⟩ + 1 := Lib.splitB_all _ (by decide) _ _ _ rfl
def validB (s : ByteArray) : Bool := decide (s.size ≤ 200) && decide ((pieces s).length ≤ 16) && !(pieces s).any badP
theorem valid_calls (s : ByteArray) (hs : s.size ≤ 1048576) (w : World) (hM : MaxL w) : Calls Tryz.prog 51 #[.string s] w fun e w' => e = .returned (.bool (validB s)) ∧ Upd [] w w' := by
  obtain ⟨m, hm⟩ := hM
  have hc : Calls Tryz.prog 67 #[.string s, .string ⟨#[46]⟩] w _ := Any.strings_Split Tryz.lays146 (by kernel_rfl) s ⟨#[46]⟩ m w (by omega) hm (by decide)
  obtain ⟨ps, hps⟩ : ∃ ps, ps = pieces s := ⟨_, rfl⟩
  have hpl := pieces_len s
  have hcb := Lib.countB_le ⟨#[46]⟩ (by decide) s.size s (Nat.le_refl _)
  have hsz : ∀ p ∈ ps, p.size ≤ maxLen := fun p hp => Nat.le_trans (splitB_size _ _ _ _ p (by rw [hps] at hp; exact hp)) (Nat.le_trans hs (by unfold maxLen; decide))
  have hv : validB s = (decide (s.size ≤ 200) && decide (ps.length ≤ 16) && !ps.any badP) := by unfold validB; rw [hps]
  rw [hv]
  have HC := Lib.hid (show Calls Tryz.prog 67 #[.string s, .string ⟨#[46]⟩] w fun e w' => e = .returned (.slice (some ⟨w.heap.size, 0, none⟩) ps.length ps.length) ∧ w' = w.alloc (.cells (ps.map Value.string).toArray 9) from hc.mono fun e w' h => by
    rw [hps, hpl]
    exact h)
  have HU := Lib.hid ((Upd.refl [] w).alloc (.cells (ps.map Value.string).toArray 9))
  have hrow : RowK (w.alloc (.cells (ps.map Value.string).toArray 9)) (· = w.heap.size) (fun x => [.string x]) 1 (.slice (some ⟨w.heap.size, 0, none⟩) ps.length ps.length) ps := by
    refine ⟨_, _, rfl, Nat.le_refl _, ?_, (fun h => by cases h), fun i x hx => ⟨w.heap.size, 0, rfl, rfl, fun j u hj => ?_⟩⟩
    · rw [hps, hpl]
      have : (1048577 : Nat) ≤ maxLen := by unfold maxLen; decide
      omega
    · have hj0 : j = 0 := by have := (List.getElem?_eq_some_iff.1 hj).1; simpa using this
      subst hj0
      simp at hj
      subst hj
      have := (HB.new w 9 (ps.map Value.string)).cell (j := i) (v := .string x) (by rw [List.getElem?_map, hx]; rfl)
      simpa using this
  have HCF := Lib.hid (contains_calls _ _ ps _ hrow hsz)
  have hpl2 : ps.length ≤ 1048577 := by rw [hps, hpl]; omega
  clear hc hps hpl hcb hsz hv hrow hm
  by_cases h1 : s.size ≤ 200
  · rw [decide_eq_true h1, Bool.true_and]
    have d1 : decide (200 < s.size) = false := decide_eq_false (by omega)
    have d1i : decide ((200 : Int) < (s.size : Int)) = false := decide_eq_false (by omega)
    by_cases h2 : ps.length ≤ 16
    · rw [decide_eq_true h2, Bool.true_and]
      have d2 : decide (16 < ps.length) = false := decide_eq_false (by omega)
      have d2i : decide ((16 : Int) < (ps.length : Int)) = false := decide_eq_false (by omega)
      generalize ps.any badP = r at *
      clear h1 h2
      go_enter Tryz.func51, Tryz.ntmps51
      go_wp2_with fail
      refine HC.out.mono ?_
      rintro e w' ⟨rfl, rfl⟩
      go_wp2_with fail
      refine HCF.out.mono ?_
      rintro e w' ⟨rfl, rfl⟩
      go_wp2
      go_ret
      exact ⟨rfl, HU.out⟩
    · rw [decide_eq_false h2, Bool.false_and]
      have d2 : decide (16 < ps.length) = true := decide_eq_true (by omega)
      have d2i : decide ((16 : Int) < (ps.length : Int)) = true := decide_eq_true (by omega)
      clear h1 h2
      go_enter Tryz.func51, Tryz.ntmps51
      go_wp2_with fail
      refine HC.out.mono ?_
      rintro e w' ⟨rfl, rfl⟩
      go_wp2
      go_ret
      exact ⟨rfl, HU.out⟩
  · rw [decide_eq_false h1, Bool.false_and, Bool.false_and]
    have d1 : decide (200 < s.size) = true := decide_eq_true (by omega)
    have d1i : decide ((200 : Int) < (s.size : Int)) = true := decide_eq_true (by omega)
    clear h1
    go_enter Tryz.func51, Tryz.ntmps51
    go_wp2_with fail
    refine HC.out.mono ?_
    rintro e w' ⟨rfl, rfl⟩
    go_wp2
    go_ret
    exact ⟨rfl, HU.out⟩
theorem rated_calls (k : Int) (w : World) : Calls Tryz.prog 50 #[.int .i64 k] w fun e w' => e = .returned (.tuple #[.bool (k == 1 || k == 3), .bool (k == 1 || k == 2 || k == 3 || k == 4)]) ∧ w' = w := by
  by_cases h1 : k = 1
  · subst h1
    go_enter Tryz.func50, Tryz.ntmps50
    go_wp2
    go_ret2
    exact ⟨rfl, rfl⟩
  · by_cases h3 : k = 3
    · subst h3
      go_enter Tryz.func50, Tryz.ntmps50
      go_wp2
      go_ret2
      exact ⟨rfl, rfl⟩
    · by_cases h2 : k = 2
      · subst h2
        go_enter Tryz.func50, Tryz.ntmps50
        go_wp2
        go_ret2
        exact ⟨rfl, rfl⟩
      · by_cases h4 : k = 4
        · subst h4
          go_enter Tryz.func50, Tryz.ntmps50
          go_wp2
          go_ret2
          exact ⟨rfl, rfl⟩
        · have d1 : (k == 1) = false := by simpa using h1
          have d2 : (k == 2) = false := by simpa using h2
          have d3 : (k == 3) = false := by simpa using h3
          have d4 : (k == 4) = false := by simpa using h4
          rw [d1, d2, d3, d4]
          go_enter Tryz.func50, Tryz.ntmps50
          go_wp2
          go_ret2
          exact ⟨rfl, rfl⟩
def memE (e : Ev) : Bool := e.member.toList.isEmpty
def vfit (e : Ev) : Bool :=
  if (decide (1000000000000000 < e.value) || decide (e.value < -1000000000000000) || (e.delta && !(e.kind == 2))) = true then false
  else if e.kind = 3 then decide (0 ≤ e.value) && decide (e.value ≤ 100000000000000) && memE e
  else if e.kind = 2 then (e.delta || decide (0 ≤ e.value)) && memE e
  else if e.kind = 4 then e.value == 0 && memB e.member.data.toList
  else memE e
set_option maxHeartbeats 1000000 in
theorem vfit_calls (e : Ev) (hm : e.member.size ≤ maxLen) (w : World) : Calls Tryz.prog 52 #[.agg (evC e).toArray] w fun x w' => x = .returned (.bool (vfit e)) ∧ Upd [] w w' := by
  obtain ⟨nm, k, v, dl, mb, rt, td, ti⟩ := e
  have HM := Lib.hid (fun W => member_calls mb hm W)
  obtain ⟨R, hR⟩ : ∃ R, R = vfit ⟨nm, k, v, dl, mb, rt, td, ti⟩ := ⟨_, rfl⟩
  rw [← hR]
  have HR := Lib.hid hR
  clear hR hm
  unfold evC
  go_enter Tryz.func52, Tryz.ntmps52
  go_wp2_with (go_at_call 71; refine (HM.out _).mono ?_; rintro e w' ⟨rfl, rfl⟩)
  all_goals
    go_ret
    refine ⟨ret_bool ?_, (Upd.refl [] w).alloc _⟩
    rw [HR.out]
    clear HR HM
    simp only [vfit, memE]
    first
      | (simp_all; done)
      | (simp_all; omega)
      | (repeat' split) <;> (first | (simp_all; done) | (simp_all; omega) | omega)
def rbad (e : Ev) : Bool := decide (e.rate < 1000) || decide (1000000 < e.rate) || (!(e.kind == 1 || e.kind == 3) && !(e.rate == 1000000))
def sbad (e : Ev) : Bool := (e.timed && (decide (e.time < 0) || decide (1099511627775 < e.time))) || (!e.timed && !(e.time == 0))
def chk (e : Ev) : Int :=
  if validB e.name = false then 41 else if (e.kind == 1 || e.kind == 2 || e.kind == 3 || e.kind == 4) = false then 43 else if vfit e = false then 42
  else if rbad e = true then 44 else if sbad e = true then 45 else 0
set_option maxHeartbeats 2000000 in
theorem chk_calls (e : Ev) (hn : e.name.size ≤ 1048576) (hm : e.member.size ≤ maxLen) (w : World) (hM : MaxL w) : Calls Tryz.prog 36 #[.agg (evC e).toArray] w fun x w' => x = .returned (.int .i64 (chk e)) ∧ Upd [] w w' := by
  have hU := (Upd.refl [] w).alloc (.cells (evC e).toArray TEv)
  have HE := Lib.hid (HB.new w TEv (evC e))
  have HRT := Lib.hid (fun W => rated_calls e.kind W)
  have HVC := Lib.hid (valid_calls e.name hn _ (hM.upd0 hU))
  have HVF := Lib.hid (fun W => vfit_calls e hm W)
  obtain ⟨R, hR⟩ : ∃ R, R = chk e := ⟨_, rfl⟩
  rw [← hR]
  obtain ⟨V, hV⟩ : ∃ V, V = validB e.name := ⟨_, rfl⟩
  obtain ⟨X, hX⟩ : ∃ X, X = vfit e := ⟨_, rfl⟩
  have HR := Lib.hid (show R = if V = false then 41 else if (e.kind == 1 || e.kind == 2 || e.kind == 3 || e.kind == 4) = false then 43 else if X = false then 42 else if rbad e = true then 44 else if sbad e = true then 45 else 0 by rw [hR, hV, hX]; rfl)
  rw [← hV] at HVC
  rw [← hX] at HVF
  have HU := Lib.hid hU
  clear hR hV hX hU
  obtain ⟨nm, k, v, dl, mb, rt, td, ti⟩ := e
  unfold evC at *
  dsimp only at *
  obtain ⟨I, hI⟩ : ∃ I, I = (k == 1 || k == 2 || k == 3 || k == 4) := ⟨_, rfl⟩
  obtain ⟨Y, hY⟩ : ∃ Y, Y = (k == 1 || k == 3) := ⟨_, rfl⟩
  rw [← hI] at HR
  rw [← hI, ← hY] at HRT
  have HRB := Lib.hid (show rbad ⟨nm, k, v, dl, mb, rt, td, ti⟩ = (decide (rt < 1000) || decide (1000000 < rt) || (!Y && !(rt == 1000000))) by rw [hY]; rfl)
  have HSB := Lib.hid (show sbad ⟨nm, k, v, dl, mb, rt, td, ti⟩ = ((td && (decide (ti < 0) || decide (1099511627775 < ti))) || (!td && !(ti == 0))) from rfl)
  obtain ⟨rb, hrb⟩ : ∃ rb, rb = rbad ⟨nm, k, v, dl, mb, rt, td, ti⟩ := ⟨_, rfl⟩
  obtain ⟨sb, hsb⟩ : ∃ sb, sb = sbad ⟨nm, k, v, dl, mb, rt, td, ti⟩ := ⟨_, rfl⟩
  rw [← hrb] at HR HRB
  rw [← hsb] at HR HSB
  clear hI hY hrb hsb hn hm hM
  go_enter Tryz.func36, Tryz.ntmps36
  go_wp2_with fail
  refine (HRT.out _).mono ?_
  rintro x w' ⟨rfl, rfl⟩
  go_wp2_with fail
  refine HVC.out.mono ?_
  rintro x w2 ⟨rfl, hU2⟩
  have HE2 := Lib.hid (HE.out.upd hU2 (by simp))
  have HU2 := Lib.hid (HU.out.then hU2)
  clear hU2 HVC HRT HE HU
  cases V
  · obtain rfl : R = 41 := by rw [HR.out, if_pos rfl]
    go_wp2
    go_ret
    exact ⟨rfl, HU2.out⟩
  · cases I
    · obtain rfl : R = 43 := by rw [HR.out, if_neg (by decide), if_pos rfl]
      go_wp2
      go_ret
      exact ⟨rfl, HU2.out⟩
    · have c0 := HE2.out.cell (j := 0) rfl
      have c1 := HE2.out.cell (j := 1) rfl
      have c2 := HE2.out.cell (j := 2) rfl
      have c3 := HE2.out.cell (j := 3) rfl
      have c4 := HE2.out.cell (j := 4) rfl
      have c5 := HE2.out.cell (j := 5) rfl
      have c6 := HE2.out.cell (j := 6) rfl
      have c7 := HE2.out.cell (j := 7) rfl
      go_wp2_with fail
      clear c0 c1 c2 c3 c4 c5 c6 c7
      refine (HVF.out _).mono ?_
      rintro x w3 ⟨rfl, hU3⟩
      have HE3 := Lib.hid (HE2.out.upd hU3 (by simp))
      have HU3 := Lib.hid (HU2.out.then hU3)
      clear hU3 HE2 HU2
      cases X
      · obtain rfl : R = 42 := by rw [HR.out, if_neg (by decide), if_neg (by decide), if_pos rfl]
        go_wp2
        go_ret
        exact ⟨rfl, HU3.out⟩
      · have c5 := HE3.out.cell (j := 5) rfl
        have c6 := HE3.out.cell (j := 6) rfl
        have c7 := HE3.out.cell (j := 7) rfl
        go_wp2
        all_goals
          go_ret
          refine ⟨ret_int ?_, HU3.out⟩
          have hrb := HRB.out
          have hsb := HSB.out
          rw [HR.out, if_neg (by decide), if_neg (by decide), if_neg (by decide)]
          clear HR HU3 HE3 HRB HSB c5 c6 c7 HVF
          first
            | (simp_all; done)
            | (simp_all; omega)
            | (repeat' split) <;> (first | (simp_all; done) | (simp_all; omega) | omega)
end Go.Proofs.YthbjpoiolmlpmaaGreatDoor
