/- Names' bytes: name.sort, namely, bytes; the predicate of Valid; line.member. -/
import Derived.Test.YthbjpoiolmlpmaaGreatDoorRd
set_option linter.unusedVariables false
set_option linter.unusedSimpArgs false
namespace Go.Proofs.YthbjpoiolmlpmaaGreatDoor
open Go.RowKit
def srt (c : Int) : Int := if 48 ≤ c ∧ c ≤ 57 then 1 else if 65 ≤ c ∧ c ≤ 90 then 2 else if 97 ≤ c ∧ c ≤ 122 then 3 else 0
theorem sort_calls (c : Int) (w : World) : Calls Tryz.prog 124 #[.int .u8 c] w fun e w' => e = .returned (.int .i64 (srt c)) ∧ w' = w := by
  by_cases h1 : 48 ≤ c ∧ c ≤ 57
  · have e : srt c = 1 := by unfold srt; rw [if_pos h1]
    obtain ⟨a1, a2⟩ := h1
    rw [e]; clear e
    go_enter Tryz.func124, Tryz.ntmps124
    go_wp2
    go_ret
    exact ⟨rfl, rfl⟩
  · have d1 : (decide (48 ≤ c) && decide (c ≤ 57)) = false := by simp; omega
    by_cases h2 : 65 ≤ c ∧ c ≤ 90
    · have e : srt c = 2 := by unfold srt; rw [if_neg h1, if_pos h2]
      have a1 : decide (c ≤ 57) = false := by simp; omega
      have a2 : 48 ≤ c := by omega
      obtain ⟨b1, b2⟩ := h2
      rw [e]; clear e h1 d1
      go_enter Tryz.func124, Tryz.ntmps124
      go_wp2
      go_ret
      exact ⟨rfl, rfl⟩
    · by_cases h3 : 97 ≤ c ∧ c ≤ 122
      · have e : srt c = 3 := by unfold srt; rw [if_neg h1, if_neg h2, if_pos h3]
        have a1 : decide (c ≤ 57) = false := by simp; omega
        have a3 : decide (c ≤ 90) = false := by simp; omega
        have a2 : 48 ≤ c := by omega
        have a4 : 65 ≤ c := by omega
        obtain ⟨b1, b2⟩ := h3
        rw [e]; clear e h1 d1 h2
        go_enter Tryz.func124, Tryz.ntmps124
        go_wp2
        go_ret
        exact ⟨rfl, rfl⟩
      · have e : srt c = 0 := by unfold srt; rw [if_neg h1, if_neg h2, if_neg h3]
        rw [e]; clear e d1
        by_cases a1 : 48 ≤ c
        · have a2 : decide (c ≤ 57) = false := by simp; omega
          by_cases a3 : 65 ≤ c
          · have a4 : decide (c ≤ 90) = false := by simp; omega
            by_cases a5 : 97 ≤ c
            · have a6 : decide (c ≤ 122) = false := by simp; omega
              clear h1 h2 h3
              go_enter Tryz.func124, Tryz.ntmps124
              go_wp2
              go_ret
              exact ⟨rfl, rfl⟩
            · have a6 : decide (97 ≤ c) = false := by simp; omega
              clear h1 h2 h3 a5
              go_enter Tryz.func124, Tryz.ntmps124
              go_wp2
              go_ret
              exact ⟨rfl, rfl⟩
          · have a4 : decide (65 ≤ c) = false := by simp; omega
            have a6 : decide (97 ≤ c) = false := by simp; omega
            clear h1 h2 h3 a3
            go_enter Tryz.func124, Tryz.ntmps124
            go_wp2
            go_ret
            exact ⟨rfl, rfl⟩
        · have a2 : decide (48 ≤ c) = false := by simp; omega
          have a4 : decide (65 ≤ c) = false := by simp; omega
          have a6 : decide (97 ≤ c) = false := by simp; omega
          clear h1 h2 h3 a1
          go_enter Tryz.func124, Tryz.ntmps124
          go_wp2
          go_ret
          exact ⟨rfl, rfl⟩
def nm (c : Int) : Bool := decide (0 < srt c) || c == 95 || c == 45
theorem namely_calls (c : Int) (w : World) : Calls Tryz.prog 108 #[.int .u8 c] w fun e w' => e = .returned (.bool (nm c)) ∧ w' = w := by
  have HS := Lib.hid (sort_calls c w)
  by_cases h : 0 < srt c
  · have e : nm c = true := by unfold nm; simp [h]
    rw [e]; clear e
    generalize srt c = r at *
    go_enter Tryz.func108, Tryz.ntmps108
    go_wp2_with fail
    refine HS.out.mono ?_
    rintro e w' ⟨rfl, rfl⟩
    go_wp2
    go_ret
    exact ⟨rfl, rfl⟩
  · have d : decide (0 < srt c) = false := by simpa using h
    have e : nm c = (c == 95 || c == 45) := by unfold nm; rw [d]; simp
    rw [e]; clear e h
    generalize srt c = r at *
    by_cases h1 : c = 95
    · subst h1
      go_enter Tryz.func108, Tryz.ntmps108
      go_wp2_with fail
      refine HS.out.mono ?_
      rintro e w' ⟨rfl, rfl⟩
      go_wp2
      go_ret
      exact ⟨rfl, rfl⟩
    · have d1 : (c == 95) = false := by simpa using h1
      rw [d1]
      go_enter Tryz.func108, Tryz.ntmps108
      go_wp2_with fail
      refine HS.out.mono ?_
      rintro e w' ⟨rfl, rfl⟩
      go_wp2
      go_ret
      exact ⟨rfl, rfl⟩
def byB (l : List UInt8) : Bool := l.all fun u => nm (u.toNat : Int)
theorem all_take {α : Type} (p : α → Bool) (l : List α) (k : Nat) (x : α) (h : l[k]? = some x) : (l.take (k + 1)).all p = ((l.take k).all p && p x) := by
  rw [List.take_add_one, h]
  simp
theorem bytes_calls (s : ByteArray) (hs : s.size ≤ maxLen) (w : World) : Calls Tryz.prog 70 #[.string s] w fun e w' => e = .returned (.bool (byB s.data.toList)) ∧ w' = w := by
  have hlm : s.size ≤ 9223372036854775807 := Nat.le_trans hs (by unfold maxLen; decide)
  obtain ⟨R, hR⟩ : ∃ R, R = byB s.data.toList := ⟨_, rfl⟩
  rw [← hR]
  have HR := Lib.hid hR
  clear hR
  go_enter Tryz.func70, Tryz.ntmps70
  go_wp2_with fail
  go_loop [6] (fun i => ∃ k : Nat, k ≤ s.size ∧ i = .int .i64 k ∧ (s.data.toList.take k).all (fun u => nm (u.toNat : Int)) = true) (fun i => s.size - (intOf i).toNat)
  case atStart => exact ⟨0, Nat.zero_le _, rfl, rfl⟩
  case round =>
    obtain ⟨k, hk, rfl, hall⟩ := hrel
    have HA := Lib.hid hall
    clear hall
    by_cases hlt : k < s.size
    · have hkI : (k : Int) < (s.size : Int) := by omega
      have hsk : s.data.toList[k]? = some s[k] := by rw [Array.getElem?_toList, Array.getElem?_eq_getElem hlt]; rfl
      have HN := Lib.hid (all_take (fun u : UInt8 => nm (u.toNat : Int)) _ _ _ hsk)
      have HC := Lib.hid (namely_calls (s[k].toNat : Int) w)
      have HF := Lib.hid (show nm (s[k].toNat : Int) = false → byB s.data.toList = false from fun h => by
        unfold byB
        rw [List.all_eq_false]
        exact ⟨_, List.mem_of_getElem? hsk, by simpa using h⟩)
      obtain ⟨b, hb⟩ : ∃ b, b = nm (s[k].toNat : Int) := ⟨_, rfl⟩
      rw [← hb] at HN HC HF
      clear hsk hb
      go_wp2_with fail
      refine HC.out.mono ?_
      rintro e w' ⟨rfl, rfl⟩
      cases b
      · obtain rfl : R = false := by rw [HR.out]; exact HF.out rfl
        go_wp2
        go_ret
        exact ⟨rfl, rfl⟩
      · go_wp2
        go_round
        case rel => exact ⟨k + 1, by omega, by go_num, by rw [HN.out, HA.out]; rfl⟩
        case measure => simp [intOf]; omega
    · obtain rfl : R = true := by
        rw [HR.out]
        have := HA.out
        rwa [List.take_of_length_le (by simp; omega)] at this
      go_wp2
      go_ret
      exact ⟨rfl, rfl⟩
def badP (s : ByteArray) : Bool := s.data.toList.isEmpty || !byB s.data.toList
theorem badP_calls (s : ByteArray) (hs : s.size ≤ maxLen) (w : World) : Calls Tryz.prog 69 #[.string s] w fun e w' => e = .returned (.bool (badP s)) ∧ w' = w := by
  have HB := Lib.hid (bytes_calls s hs w)
  by_cases h : s.data.toList = []
  · have e : badP s = true := by unfold badP; rw [h]; rfl
    rw [e]
    have e1 : s.toList = [] := by rw [ByteArray.toList_eq]; exact h
    clear e h
    go_enter Tryz.func69, Tryz.ntmps69
    go_wp2_with fail
    go_ret
    exact ⟨rfl, rfl⟩
  · have e : badP s = !byB s.data.toList := by unfold badP; rw [List.isEmpty_eq_false_iff.2 h]; rfl
    rw [e]
    have e1 : s.toList.isEmpty = false := by rw [ByteArray.toList_eq]; exact List.isEmpty_eq_false_iff.2 h
    have e2 : ¬ s.toList = [] := by rw [ByteArray.toList_eq]; exact h
    generalize byB s.data.toList = r at *
    clear e h
    go_enter Tryz.func69, Tryz.ntmps69
    go_wp2_with fail
    refine HB.out.mono ?_
    rintro e w' ⟨rfl, rfl⟩
    go_wp2
    go_ret
    exact ⟨rfl, rfl⟩
/-- The index of the first bad piece, if there is one. -/
theorem index_calls (F : Nat → Prop) (v : Value) (ss : List ByteArray) (w : World) (hr : RowK w F (fun x => [.string x]) 1 v ss) (hs : ∀ s ∈ ss, s.size ≤ maxLen) :
    Calls Tryz.prog 107 #[v, .func (.func 69) #[] #[]] w fun e w' => ∃ i : Int, e = .returned (.int .i64 i) ∧ decide (0 ≤ i) = ss.any badP ∧ w' = w := by
  obtain ⟨A, c, rfl, hc1, hc2, hc3⟩ := hr.shape
  have hlm := Nat.le_trans hc1 (Nat.le_trans hc2 (show maxLen ≤ 9223372036854775807 by unfold maxLen; decide))
  have HR := Lib.hid hr
  have HS := Lib.hid hs
  obtain ⟨R, hR⟩ : ∃ R, R = ss.any badP := ⟨_, rfl⟩
  rw [← hR]
  have HRR := Lib.hid hR
  clear hr hs hR hc1 hc2 hc3
  go_enter Tryz.func107, Tryz.ntmps107
  go_wp2_with fail
  go_loop [8] (fun i => ∃ k : Nat, k ≤ ss.length ∧ i = .int .i64 k ∧ (ss.take k).any badP = false) (fun i => ss.length - (intOf i).toNat)
  case atStart => exact ⟨0, Nat.zero_le _, rfl, rfl⟩
  case round =>
    obtain ⟨k, hk, rfl, hall⟩ := hrel
    have HA := Lib.hid hall
    clear hall
    by_cases hlt : k < ss.length
    · have hkI : (k : Int) < (ss.length : Int) := by omega
      obtain ⟨s, hsk⟩ : ∃ s, ss[k]? = some s := ⟨_, List.getElem?_eq_getElem hlt⟩
      obtain ⟨b, o, hA, _, hcell⟩ := HR.out.at1 (f := Value.string) hsk
      subst hA
      have HB := Lib.hid (badP_calls s (HS.out s (List.mem_of_getElem? hsk)) w)
      have HN := Lib.hid (show (ss.take (k + 1)).any badP = ((ss.take k).any badP || badP s) by rw [List.take_add_one, hsk]; simp)
      have HF := Lib.hid (show badP s = true → ss.any badP = true from fun h => List.any_eq_true.2 ⟨s, List.mem_of_getElem? hsk, h⟩)
      obtain ⟨r, hr⟩ : ∃ r, r = badP s := ⟨_, rfl⟩
      rw [← hr] at HB HN HF
      clear hsk hr
      go_wp2_with fail
      refine HB.out.mono ?_
      rintro e w' ⟨rfl, rfl⟩
      clear hcell
      cases r
      · go_wp2
        go_round
        case rel => exact ⟨k + 1, by omega, by go_num, by rw [HN.out, HA.out]; rfl⟩
        case measure => simp [intOf]; omega
      · obtain rfl : R = true := by rw [HRR.out]; exact HF.out rfl
        go_wp2
        go_ret
        exact ⟨k, rfl, by simp, rfl⟩
    · obtain rfl : R = false := by
        rw [HRR.out]
        have := HA.out
        rwa [List.take_of_length_le (by omega)] at this
      go_wp2
      go_ret
      exact ⟨-1, rfl, by simp, rfl⟩
theorem contains_calls (F : Nat → Prop) (v : Value) (ss : List ByteArray) (w : World) (hr : RowK w F (fun x => [.string x]) 1 v ss) (hs : ∀ s ∈ ss, s.size ≤ maxLen) :
    Calls Tryz.prog 68 #[v, .func (.func 69) #[] #[]] w fun e w' => e = .returned (.bool (ss.any badP)) ∧ w' = w := by
  have HI := Lib.hid (index_calls F v ss w hr hs)
  generalize ss.any badP = r at *
  obtain ⟨A, c, rfl, _, _, _⟩ := hr.shape
  clear hr hs
  go_enter Tryz.func68, Tryz.ntmps68
  go_wp2_with fail
  refine HI.out.mono ?_
  rintro e w' ⟨i, rfl, hi, rfl⟩
  subst hi
  go_wp2
  go_ret
  exact ⟨rfl, rfl⟩
def memB (l : List UInt8) : Bool := l.all (fun u => !(decide ((u.toNat : Int) < 32) || decide (126 < (u.toNat : Int)) || ((u.toNat : Int) == 124))) && decide (1 ≤ l.length) && decide (l.length ≤ 100)
theorem member_calls (s : ByteArray) (hs : s.size ≤ maxLen) (w : World) : Calls Tryz.prog 71 #[.string s] w fun e w' => e = .returned (.bool (memB s.data.toList)) ∧ w' = w := by
  have hlm : s.size ≤ 9223372036854775807 := Nat.le_trans hs (by unfold maxLen; decide)
  obtain ⟨R, hR⟩ : ∃ R, R = memB s.data.toList := ⟨_, rfl⟩
  rw [← hR]
  have HR := Lib.hid hR
  clear hR
  go_enter Tryz.func71, Tryz.ntmps71
  go_wp2_with fail
  go_loop [3] (fun i => ∃ k : Nat, k ≤ s.size ∧ i = .int .i64 k ∧ (s.data.toList.take k).all (fun u => !(decide ((u.toNat : Int) < 32) || decide (126 < (u.toNat : Int)) || ((u.toNat : Int) == 124))) = true) (fun i => s.size - (intOf i).toNat)
  case atStart => exact ⟨0, Nat.zero_le _, rfl, rfl⟩
  case round =>
    obtain ⟨k, hk, rfl, hall⟩ := hrel
    have HA := Lib.hid hall
    clear hall
    by_cases hlt : k < s.size
    · have hkI : (k : Int) < (s.size : Int) := by omega
      have hsk : s.data.toList[k]? = some s[k] := by rw [Array.getElem?_toList, Array.getElem?_eq_getElem hlt]; rfl
      have HN := Lib.hid (all_take (fun u : UInt8 => !(decide ((u.toNat : Int) < 32) || decide (126 < (u.toNat : Int)) || ((u.toNat : Int) == 124))) _ _ _ hsk)
      have HF := Lib.hid (show (decide ((s[k].toNat : Int) < 32) || decide (126 < (s[k].toNat : Int)) || ((s[k].toNat : Int) == 124)) = true → memB s.data.toList = false from fun h => by
        unfold memB
        have : (s.data.toList.all (fun u => !(decide ((u.toNat : Int) < 32) || decide (126 < (u.toNat : Int)) || ((u.toNat : Int) == 124)))) = false := by
          rw [List.all_eq_false]
          exact ⟨_, List.mem_of_getElem? hsk, by simp only [h]; decide⟩
        rw [this]
        rfl)
      obtain ⟨x, hx⟩ : ∃ x : Int, x = (s[k].toNat : Int) := ⟨_, rfl⟩
      have hxk : (s[k].toNat : Int) = x := hx.symm
      rw [← hx] at HN HF
      clear hsk hx
      by_cases h1 : x < 32
      · obtain rfl : R = false := by rw [HR.out]; exact HF.out (by simp [h1])
        have d1 : decide (x < 32) = true := decide_eq_true h1
        clear HF HN
        go_wp2
        go_ret
        exact ⟨rfl, rfl⟩
      · by_cases h2 : 126 < x
        · obtain rfl : R = false := by rw [HR.out]; exact HF.out (by simp [h2])
          have d1 : decide (x < 32) = false := decide_eq_false h1
          have d2 : decide (126 < x) = true := decide_eq_true h2
          clear HF HN
          go_wp2
          go_ret
          exact ⟨rfl, rfl⟩
        · have d1 : decide (x < 32) = false := decide_eq_false h1
          have d2 : decide (126 < x) = false := decide_eq_false h2
          by_cases h3 : x = 124
          · obtain rfl : R = false := by rw [HR.out]; exact HF.out (by simp [h3])
            have d3 : (x == 124) = true := by simpa using h3
            clear HF HN h3
            go_wp2
            go_ret
            exact ⟨rfl, rfl⟩
          · have d3 : (x == 124) = false := by simpa using h3
            have HN2 := Lib.hid (show (s.data.toList.take (k + 1)).all (fun u => !(decide ((u.toNat : Int) < 32) || decide (126 < (u.toNat : Int)) || ((u.toNat : Int) == 124))) = true by rw [HN.out, HA.out, d1, d2, d3]; rfl)
            clear HF HN h3
            go_wp2
            go_round
            case rel => exact ⟨k + 1, by omega, by go_num, HN2.out⟩
            case measure => simp [intOf]; omega
    · have hb : memB s.data.toList = (decide (1 ≤ s.size) && decide (s.size ≤ 100)) := by
        have := HA.out
        rw [List.take_of_length_le (by simp; omega)] at this
        unfold memB
        rw [this]
        simp
      by_cases h1 : 1 ≤ s.size
      · by_cases h2 : s.size ≤ 100
        · obtain rfl : R = true := by rw [HR.out, hb, decide_eq_true h1, decide_eq_true h2]; rfl
          have d2 : decide (s.size ≤ 100) = true := decide_eq_true h2
          have d2i : decide ((s.size : Int) ≤ 100) = true := decide_eq_true (by omega)
          clear hb HA
          go_wp2
          go_ret
          exact ⟨rfl, rfl⟩
        · obtain rfl : R = false := by rw [HR.out, hb, decide_eq_true h1, decide_eq_false h2]; rfl
          have d2 : decide (s.size ≤ 100) = false := decide_eq_false h2
          have d2i : decide ((s.size : Int) ≤ 100) = false := decide_eq_false (by omega)
          clear hb HA
          go_wp2
          go_ret
          exact ⟨rfl, rfl⟩
      · obtain rfl : R = false := by rw [HR.out, hb, decide_eq_false h1]; rfl
        have d1 : decide (1 ≤ s.size) = false := decide_eq_false h1
        clear hb HA
        go_wp2
        go_ret
        exact ⟨rfl, rfl⟩
end Go.Proofs.YthbjpoiolmlpmaaGreatDoor
