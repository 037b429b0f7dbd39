/- archive.Open. -/
import Derived.Test.YtdjpcinibgbglaaHead
set_option linter.unusedVariables false
set_option linter.unusedSimpArgs false
namespace Go.Proofs.Ytdjpcinibgbglaa
open Go.RowKit Go.Sort
def titleL : List Int := [82, 82, 65, 49]
def rdPts (l : List Int) : Nat → Nat → Int → Band → Except Nat (Band × Nat)
  | 0, p, _, b => .ok (b, p)
  | n + 1, p, last, b => match pointP b l p last with
    | none => .error p
    | some q => rdPts l n (p + 24) q.t (b.put q.t q.v)
def rdBand (l : List Int) (p : Nat) (b : Band) : Except Nat (Band × Nat) := match numAt l p 4 with
  | none => .error p
  | some n => if (b.n : Int) < n then .error p else rdPts l n.toNat (p + 4) (-1) b
def rdBands (l : List Int) : List Band → Nat → Except Nat (List Band × Nat)
  | [], p => .ok ([], p)
  | b :: bs, p => match rdBand l p b with
    | .error q => .error q
    | .ok (b', p') => match rdBands l bs p' with
      | .error q => .error q
      | .ok (bs', q) => .ok (b' :: bs', q)
def opnT (l : List Int) (m x : Int) : Except Nat (List Band × Nat) → Except (Nat × Int) Fl
  | .error p => .error (p, 195)
  | .ok (bs, p) => if p < l.length then .error (p, 195) else .ok ⟨m, x, bs⟩
def opnH (l : List Int) : Except Nat (List Spc × Int × Int × Nat) → Except (Nat × Int) Fl
  | .error p => .error (p, 195)
  | .ok (s, m, x, p) => opnT l m x (rdBands l (s.map newB) p)
def openP (l : List Int) : Except (Nat × Int) Fl :=
  if l.length < 14 then .error (0, 195)
  else if l.take 4 ≠ titleL then .error (0, 195)
  else if num (l.drop (l.length - 4)) ≠ fnv (l.take (l.length - 4)) then .error (l.length - 4, 196)
  else opnH (l.take (l.length - 4)) (headP (l.take (l.length - 4)))
theorem strN_size (l : List Int) : (strOfNums l).size = l.length := strOfNums_size l
theorem row_str {w : World} {F : Nat → Prop} {A : Option Addr} {n c : Nat} {l : List Int} (h : RowK w F bc 1 (.slice A n c) l) (h0 : 0 < l.length) : (convert 62 9 (.slice A n c)).run Try.prog w = .ok (.string (strOfNums l)) w := by
  obtain rfl : n = l.length := h.len
  obtain ⟨b, o, rfl, _, _⟩ := h.at_ (i := 0) (x := l[0]'h0) (List.getElem?_eq_getElem h0)
  refine run_convert_bytes_arg (P := Try.prog) w 62 5 (by kernel_rfl) (by kernel_rfl) b o l.length c l rfl (fun i hi => ?_) 9 (by kernel_rfl)
  obtain ⟨b', o', hA, _, hc⟩ := h.at_ (i := i) (x := l[i]'hi) (List.getElem?_eq_getElem hi)
  injection hA with hA
  injection hA with hb ho _
  subst hb ho
  rw [List.getD_eq_getElem?_getD, List.getElem?_eq_getElem hi]
  simpa using hc 0 _ rfl
def resT (pre : List Band) : Except Nat (List Band × Nat) → Except Nat (List Band × Nat)
  | .error q => .error q
  | .ok (bs, q) => .ok (pre ++ bs, q)
def nextT (l : List Int) (bs : List Band) : Except Nat (Band × Nat) → Except Nat (List Band × Nat)
  | .error q => .error q
  | .ok (b', p') => resT [b'] (rdBands l bs p')
theorem rdBands_cons (l : List Int) (b : Band) (bs : List Band) (p : Nat) : rdBands l (b :: bs) p = nextT l bs (rdBand l p b) := by
  unfold nextT
  rw [rdBands]
  cases h : rdBand l p b with
  | error q => rfl
  | ok r =>
    obtain ⟨b', p'⟩ := r
    simp only
    cases rdBands l bs p' <;> rfl
theorem resT_resT (a b : List Band) (r : Except Nat (List Band × Nat)) : resT a (resT b r) = resT (a ++ b) r := by
  cases r with
  | error q => rfl
  | ok r => obtain ⟨x, y⟩ := r; simp only [resT, List.append_assoc]
theorem rdPts_succ (l : List Int) (n p : Nat) (last : Int) (b : Band) : rdPts l (n + 1) p last b = match pointP b l p last with
    | none => .error p
    | some q => rdPts l n (p + 24) q.t (b.put q.t q.v) := rfl
theorem pointP_ok {b : Band} (hb : b.ok) {l : List Int} {p : Nat} {last : Int} {q : Pt} (h : pointP b l p last = some q) : (b.put q.t q.v).ok := by
  unfold pointP at h
  split at h
  · rename_i hc
    injection h with h
    subst h
    refine Band.put_ok hb ?_ ?_
    · simpa [sec] using hc.2.1
    · simpa [fitV] using hc.2.2.2.2.2
  · cases h
theorem FileAt.put3 {w w' : World} {base fb k rb n0 c0 : Nat} {A0 : Option Addr} {p0 : Int} {f : Fl} {v : Value} {Ls : List Loc} {L : Loc} {b b' : Band} (h : FileAt w base fb f v Ls) (hr : HB w rb 123 [.slice A0 n0 c0, .int .i64 p0]) (hL : Ls[k]? = some L) (hb : f.bands[k]? = some b) (hU : Upd [rb, L.l, L.i] w w') (hB : BandAt w' L b') :
    FileAt w' base fb { f with bands := f.bands.set k b' } v Ls := by
  have hm := mem_muts hL
  have hS : ∀ y, y ≠ rb → y ∉ muts Ls → y ∉ [rb, L.l, L.i] := fun y hn hy hm2 => by
    simp at hm2
    rcases hm2 with rfl | rfl | rfl
    · exact hn rfl
    · exact hy hm.1
    · exact hy hm.2
  have hB0 := h.band k L b hL hb
  have hown : ∀ y, v.ownBlock = some y → y ≠ rb := by
    intro y hy e
    subst e
    obtain ⟨A, c, hv, -⟩ := h.row.shape
    have hrow := h.row
    rw [hv] at hrow
    obtain ⟨g, o, hA, hg, hc⟩ := hrow.at1 hL
    rw [← hv, hy] at hg
    injection hg with hg
    subst hg
    unfold HB at hr
    simp [World.cell?, hr] at hc
    generalize o + k = j at hc
    match j with
    | 0 => simp at hc
    | 1 => simp at hc
    | j + 2 => simp at hc
  refine ⟨h.hf.upd hU (hS _ (hr.ne h.hf (by decide)).symm (h.hb_ne h.hf (by decide) (by decide))), h.row.upd hU (fun y hy e => hS y (hown y e) (h.own y e) hy), by simpa using h.len, ?_, h.nodup, h.own, h.up, h.low⟩
  intro j L' b2 hj hb2
  by_cases hjk : j = k
  · subst hjk
    rw [hL] at hj
    injection hj with hj
    subst hj
    have hkl : j < f.bands.length := (List.getElem?_eq_some_iff.1 hb).1
    simp only [List.getElem?_set_self hkl, Option.some.injEq] at hb2
    subst hb2
    exact hB
  · simp only [List.getElem?_set_ne (Ne.symm hjk)] at hb2
    have hB2 := h.band j L' b2 hj hb2
    have hne := muts_ne h.nodup hj hL hjk
    refine hB2.upd hU (hS _ (hr.ne hB2.hb (by decide)).symm (h.hb_ne hB2.hb (by decide) (by decide))) ?_ ?_
    · simp only [List.mem_cons, List.not_mem_nil, or_false, not_or]
      exact ⟨(hr.ne hB2.hl (by decide)).symm, hne.1, hB2.hl.ne hB0.hi (by decide)⟩
    · simp only [List.mem_cons, List.not_mem_nil, or_false, not_or]
      exact ⟨(hr.ne hB2.hi (by decide)).symm, hB2.hi.ne hB0.hl (by decide), hne.2⟩
def OpenQ (w w' : World) (e : Ending) : Except (Nat × Int) Fl → Prop
  | .error (p, er) => e = .returned (.tuple #[.pointer none, .int .i64 (p : Nat), .int .i64 er]) ∧ Upd [] w w'
  | .ok f => ∃ (base fb : Nat) (bv : Value) (Ls : List Loc), e = .returned (.tuple #[.pointer (some ⟨fb, 0, none⟩), .int .i64 0, .int .i64 0]) ∧ w.heap.size ≤ base ∧ base ≤ fb ∧ FileAt w' base fb f bv Ls ∧ Upd [] w w'
set_option maxRecDepth 20000 in
set_option maxHeartbeats 4000000 in
theorem open_calls (F : Nat → Prop) (v : Value) (l : List Int) (w : World) (hr : RowK w F bc 1 v l) (hb : Byt l) (hl : l.length ≤ 140737488355328) (hF : ∀ b, F b → b < w.heap.size) :
    Calls Try.prog 28 #[v] w fun e w' => OpenQ w w' e (openP l) := by
  obtain ⟨P, hP⟩ : ∃ P, P = openP l := ⟨_, rfl⟩
  rw [← hP]
  have HP := Lib.hid hP
  clear hP
  obtain ⟨A, c, rfl, hc1, hc2, hc3⟩ := hr.shape
  by_cases c0 : l.length < 14
  · have d0 : decide (l.length < 14) = true := decide_eq_true c0
    have d0i : decide ((l.length : Int) < 14) = true := decide_eq_true (by omega)
    have hPP : P = .error (0, 195) := by rw [HP.out]; unfold openP; rw [if_pos c0]
    clear HP c0
    subst hPP
    go_enter Try.func28, Try.ntmps28
    go_wp2
    go_ret3
    exact ⟨rfl, Upd.refl _ _⟩
  · have d0 : decide (l.length < 14) = false := decide_eq_false c0
    have d0i : decide ((l.length : Int) < 14) = false := decide_eq_false (by omega)
    have h4c : (4 : Int) ≤ (c : Int) := by omega
    have hcv := row_str (hr.take 4 (by omega)) (by rw [List.length_take]; omega)
    obtain ⟨b0, o0, rfl, -⟩ := hr.at_ (i := 0) (x := l[0]'(by omega)) (List.getElem?_eq_getElem _)
    by_cases c1 : l.take 4 = titleL
    · rw [c1] at hcv
      obtain ⟨T, hT⟩ : ∃ T, T = strOfNums titleL := ⟨_, rfl⟩
      rw [← hT] at hcv
      have hTb : (T.toList == [82, 82, 65, 49]) = true := by rw [hT, ByteArray.toList_eq]; decide
      obtain ⟨e, he⟩ : ∃ e, l.length = e + 4 := ⟨l.length - 4, by omega⟩
      have hwe : (l.length : Int) - 4 = (e : Int) := by omega
      have HE := Lib.hid he
      obtain ⟨L0, hL0⟩ : ∃ L0, L0 = l.take e := ⟨_, rfl⟩
      have hL0l : L0.length = e := by rw [hL0, List.length_take]; omega
      have HLL := Lib.hid (And.intro hL0l (show 10 ≤ e ∧ e ≤ 140737488355328 by omega))
      have HRL := Lib.hid (show RowK w F bc 1 (.slice (some ⟨b0, o0, none⟩) e c) L0 by rw [hL0]; exact hr.take e (by omega))
      have HL0b := Lib.hid (show Byt L0 from by rw [hL0]; exact fun x hx => hb x (List.mem_of_mem_take hx))
      obtain ⟨n, hn⟩ : ∃ n, n = num (l.drop e) := ⟨_, rfl⟩
      have hnA : numAt l e 4 = some n := by
        unfold numAt
        rw [if_pos (by omega), hn, List.take_of_length_le (by rw [List.length_drop]; omega)]
      have HPP := Lib.hid (show P = if n ≠ fnv L0 then .error (e, 196) else opnH L0 (headP L0) by
        rw [HP.out]
        unfold openP
        rw [if_neg c0, if_neg (by simpa using c1), show l.length - 4 = e by omega, ← hL0, ← hn])
      have hnb := num4_bd hb e
      rw [hnA] at hnb
      simp only [Option.getD_some] at hnb
      have HNC := Lib.hid (fun rb W (hR : RowK W F bc 1 (.slice (some ⟨b0, o0, none⟩) l.length c) l) (h1 : HB W rb 123 [.slice (some ⟨b0, o0, none⟩) l.length c, .int .i64 (e : Nat)]) (hFb : ¬ F rb) => show Calls Try.prog 52 #[.pointer (some ⟨rb, 0, none⟩), .int .i64 4] W fun x w' => x = .returned (.tuple #[.int .u64 n, .bool true]) ∧ Upd [rb] W w' by
        have h := number_calls F rb _ l e 4 W h1 hR hb (by omega) (by omega) (by omega) hl hFb
        rw [hnA] at h
        exact h.mono (fun x w' hx => ⟨hx.1, hx.2.2⟩))
      have HR := Lib.hid hr
      have HB0 := Lib.hid hb
      have HFw := Lib.hid hF
      have he0 : (e : Int) ≤ (c : Int) := by omega
      have he1 : (0 : Int) ≤ (e : Int) := by omega
      clear c0 c1 hT hL0 hL0l hn hnA HP hr hb hF hc1 hc2 hc3 he
      go_enter Try.func28, Try.ntmps28
      go_wp2_with fail
      have hRd := HB.new w 123 [.slice (some ⟨b0, o0, none⟩) l.length c, .int .i64 (e : Nat)]
      have HU1 := Lib.hid ((Upd.refl [] w).alloc (.cells #[.slice (some ⟨b0, o0, none⟩) l.length c, .int .i64 (e : Nat)] 123))
      refine (HNC.out _ _ (HR.out.upd0 HU1.out) hRd (fun h => absurd (HFw.out _ h) (by omega))).mono ?_
      rintro x w1 ⟨rfl, hU1⟩
      have HU2 := Lib.hid (show Upd [] w w1 from HU1.out.trans hU1 (fun _ h => h) (fun i hi => .inr (by simp at hi; omega)))
      have hcv2 := row_str (HRL.out.upd0 HU2.out) (by have := HLL.out; omega)
      have hwn : IntKind.u32.wrap n = n := by simp [IntKind.wrap, IntKind.bits, IntKind.signed]; omega
      have HHS := Lib.hid (fun W => hash_calls (strOfNums L0) (by have := HLL.out; rw [strOfNums_size]; unfold maxLen; omega) W)
      rw [nums_of HL0b.out] at HHS
      obtain ⟨H, hH⟩ : ∃ H, H = fnv L0 := ⟨_, rfl⟩
      rw [← hH] at HHS HPP
      obtain ⟨S0, hS0⟩ : ∃ S0, S0 = strOfNums L0 := ⟨_, rfl⟩
      rw [← hS0] at hcv2 HHS
      clear hU1 hH hS0 hRd hcv hTb
      go_wp2_with fail
      refine (HHS.out _).mono ?_
      rintro x w2 ⟨rfl, rfl⟩
      clear hcv2
      by_cases c2 : n = H
      · have d2 : (n != H) = false := by simp [c2]
        have HPO := Lib.hid (show P = opnH L0 (headP L0) by rw [HPP.out, if_neg (by simpa using c2)])
        clear HPP c2
        have HU3 := Lib.hid (HU2.out.then ((Upd.refl [] w2).alloc (.cells #[.slice (some ⟨b0, o0, none⟩) e c, .int .i64 0] 123)))
        obtain ⟨W3, hW3⟩ : ∃ W3, W3 = w2.alloc (.cells #[.slice (some ⟨b0, o0, none⟩) e c, .int .i64 0] 123) := ⟨_, rfl⟩
        have hRd := HB.new w2 123 [.slice (some ⟨b0, o0, none⟩) e c, .int .i64 0]
        have hRd : HB W3 w2.heap.size 123 [.slice (some ⟨b0, o0, none⟩) e c, .int .i64 0] := by rw [hW3]; exact hRd
        rw [← hW3] at HU3
        obtain ⟨rb, hrb⟩ : ∃ rb, rb = w2.heap.size := ⟨_, rfl⟩
        have hrw : w.heap.size ≤ rb := by rw [hrb]; exact HU2.out.size
        have hFr : ¬ F rb := fun h => absurd (HFw.out _ h) (by omega)
        rw [← hrb] at hRd
        have HHD := Lib.hid (head_calls F rb _ L0 0 W3 hRd (HRL.out.upd0 HU3.out) HL0b.out (by have := HLL.out; omega) (by have := HLL.out; omega) hFr)
        have HRW := Lib.hid hrw
        have HFR := Lib.hid hFr
        have HRB := Lib.hid hrb
        clear hRd hrw hFr hrb
        cases hh : headP L0 with
        | error p =>
          rw [hh] at HHD HPO
          have hPP : P = .error (p, 195) := by rw [HPO.out]; rfl
          clear HPO hh
          subst hPP
          go_wp2_with fail
          rw [← hW3, ← HRB.out]
          refine HHD.out.mono ?_
          rintro x w4 ⟨rfl, hU4⟩
          have HU4 := Lib.hid (HU3.out.trans hU4 (fun _ h => h) (fun i hi => .inr (by simp at hi; subst hi; exact HRW.out)))
          clear hU4
          go_wp2
          go_ret3
          exact ⟨rfl, HU4.out⟩
        | ok r =>
          obtain ⟨s, m, x, p0⟩ := r
          rw [hh] at HHD HPO
          clear hh
          go_wp2_with fail
          rw [← hW3, ← HRB.out]
          refine HHD.out.mono ?_
          rintro x1 w4 ⟨base, fb, bv, Ls, rfl, hb1, hb2, hfile, hck, hm, hx, hp0, hBr, hU4⟩
          have HU4 := Lib.hid (HU3.out.trans hU4 (fun _ h => h) (fun i hi => .inr (by simp at hi; subst hi; exact HRW.out)))
          obtain ⟨A2, q2, rfl, hq1, hq2, -⟩ := hfile.row.shape
          have HLS := Lib.hid (show Ls.length ≤ 9223372036854775807 from Nat.le_trans hq1 (Nat.le_trans hq2 (by unfold maxLen; decide)))
          clear hq1 hq2
          have y2 := hfile.hf.cell (j := 2) rfl
          have HFL := Lib.hid hfile
          have HOK0 := Lib.hid (newF_ok hck hm hx).bands
          have HB4 := Lib.hid hBr
          have HP0 := Lib.hid hp0
          have HBS := Lib.hid (And.intro hb1 hb2)
          have HW3S := Lib.hid (HU3.out.size)
          clear hfile hck hm hx hp0 hBr hU4 hb1 hb2
          go_wp2_with fail
          go_loopw [69] (fun iv wr => ∃ (k p : Nat) (fc : List Band), k ≤ Ls.length ∧ iv = .int .i64 (k : Int) ∧ fc.length = Ls.length ∧ (∀ b ∈ fc, b.ok) ∧ rdBands L0 (s.map newB) p0 = resT (fc.take k) (rdBands L0 (fc.drop k) p) ∧ p ≤ L0.length ∧ HB wr rb 123 [.slice (some ⟨b0, o0, none⟩) e c, .int .i64 (p : Nat)] ∧ FileAt wr base fb ⟨m, x, fc⟩ (.slice A2 Ls.length q2) Ls ∧ Upd [] w wr) (fun iv _ => Ls.length - (intOf iv).toNat)
          case atStart => exact ⟨0, p0, s.map newB, Nat.zero_le _, rfl, HFL.out.len.symm, HOK0.out, by rw [List.take_zero, List.drop_zero]; cases rdBands L0 (s.map newB) p0 <;> rfl, HP0.out, HB4.out, HFL.out, HU4.out⟩
          case round =>
            obtain ⟨k, p, fc, hk, rfl, hfl, hok, hrd, hp, hBr, hfile, hU⟩ := hrel
            have HFC := Lib.hid hfl
            have HOK := Lib.hid hok
            have HRD := Lib.hid hrd
            have HP1 := Lib.hid hp
            have HBr := Lib.hid hBr
            have HFI := Lib.hid hfile
            have HU := Lib.hid hU
            by_cases hlt : k < Ls.length
            · obtain ⟨L, hL⟩ : ∃ L, Ls[k]? = some L := ⟨_, List.getElem?_eq_getElem hlt⟩
              obtain ⟨b, hb⟩ : ∃ b, fc[k]? = some b := ⟨_, List.getElem?_eq_getElem (by omega)⟩
              have hbok := hok b (List.mem_of_getElem? hb)
              have hbd := hfile.band k L b hL hb
              obtain ⟨g, o, hA, _, hcg⟩ := HFI.out.row.at1 hL
              subst hA
              have r1 := hBr.cell (j := 1) rfl
              have HRD2 := Lib.hid (show rdBands L0 (s.map newB) p0 = resT (fc.take k) (nextT L0 (fc.drop (k + 1)) (rdBand L0 p b)) by
                rw [hrd, drop_cons' fc k b hb, rdBands_cons])
              have hFmem := mem_muts hL
              have HFM := Lib.hid (show ¬ F L.l ∧ ¬ F L.i from ⟨fun h => absurd (HFw.out _ h) (by have := HFI.out.up _ hFmem.1; have := HBS.out.1; have := HW3S.out; omega), fun h => absurd (HFw.out _ h) (by have := HFI.out.up _ hFmem.2; have := HBS.out.1; have := HW3S.out; omega)⟩)
              have HLI := Lib.hid (show L.l ≠ L.i from hbd.hl.ne hbd.hi (by decide))
              have HBD := Lib.hid hbd
              have HBOK := Lib.hid hbok
              have HLX := Lib.hid hL
              have HBX := Lib.hid hb
              have b1 := hbd.hb.cell (j := 1) rfl
              have hpl := HLL.out
              have hbn := hbok.b
              have HBN := Lib.hid hbn
              have hki : (k : Int) < (Ls.length : Int) := by omega
              have HKI := Lib.hid hlt
              clear hfl hok hrd hBr hfile hU hL hb hbok hbd hFmem hpl hbn HRD
              go_wp2_with fail
              refine (number_calls F rb _ L0 p 4 _ HBr.out (HRL.out.upd0 HU.out) HL0b.out (by omega) hp (by have := HLL.out; omega) (by have := HLL.out; omega) HFR.out).mono ?_
              rintro x2 w5 ⟨rfl, hB5, hU5⟩
              have HU5 := Lib.hid (HU.out.trans hU5 (fun _ h => h) (fun i hi => .inr (by simp at hi; subst hi; exact HRW.out)))
              have hbd5 := HBD.out.upd hU5 (by simp; exact fun e => HBr.out.ne HBD.out.hb (by decide) e.symm) (by simp; exact fun e => HBr.out.ne HBD.out.hl (by decide) e.symm) (by simp; exact fun e => HBr.out.ne HBD.out.hi (by decide) e.symm)
              have HFI5 := Lib.hid (HFI.out.put3 HBr.out HLX.out HBX.out (hU5.mono (fun i hi => .inl (by simp at hi; simp [hi]))) hbd5)
              have z1 := hbd5.hb.cell (j := 1) rfl
              have HB5 := Lib.hid hB5
              have hwb : IntKind.u64.wrap (b.n : Int) = (b.n : Int) := by have := HBN.out; simp [IntKind.wrap, IntKind.bits, IntKind.signed]; omega
              have HPB := Lib.hid (show P = opnT L0 m x (resT (fc.take k) (nextT L0 (fc.drop (k + 1)) (rdBand L0 p b))) by
                rw [HPO.out]
                show opnT L0 m x (rdBands L0 (s.map newB) p0) = _
                rw [HRD2.out])
              clear hB5 hU5 hbd5 r1 b1
              cases h4 : numAt L0 p 4 with
              | none =>
                have hPP : P = .error (p, 195) := by
                  rw [HPB.out]
                  unfold rdBand
                  rw [h4]
                  rfl
                rw [h4] at HB5
                clear h4 HPB HPO
                subst hPP
                go_wp2
                go_ret3
                exact ⟨rfl, HU5.out⟩
              | some n4 =>
                have hn4 := num4_bd HL0b.out p
                rw [h4] at hn4 HB5
                simp only [Option.getD_some] at hn4
                have HBE : Hid (HB w5 rb 123 [.slice (some ⟨b0, o0, none⟩) e c, .int .i64 ((p + 4 : Nat) : Int)]) := HB5
                have hp4 : p + 4 ≤ L0.length := by
                  unfold numAt at h4
                  split at h4
                  · assumption
                  · cases h4
                by_cases c5 : (b.n : Int) < n4
                · have d5 : decide ((b.n : Int) < n4) = true := decide_eq_true c5
                  have hPP : P = .error (p, 195) := by
                    rw [HPB.out]
                    unfold rdBand
                    rw [h4]
                    simp only
                    rw [if_pos c5]
                    rfl
                  clear h4 HPB HPO c5
                  subst hPP
                  go_wp2
                  go_ret3
                  exact ⟨rfl, HU5.out⟩
                · have d5 : decide ((b.n : Int) < n4) = false := decide_eq_false c5
                  obtain ⟨nn, rfl⟩ : ∃ nn : Nat, n4 = (nn : Int) := ⟨n4.toNat, by omega⟩
                  have d5n : decide (b.n < nn) = false := decide_eq_false (by omega)
                  have HPC := Lib.hid (show P = opnT L0 m x (resT (fc.take k) (nextT L0 (fc.drop (k + 1)) (rdPts L0 nn (p + 4) (-1) b))) by
                    rw [HPB.out]
                    unfold rdBand
                    rw [h4]
                    simp only
                    rw [if_neg c5]
                    rfl)
                  have HRD3 := Lib.hid (show rdBands L0 (s.map newB) p0 = resT (fc.take k) (nextT L0 (fc.drop (k + 1)) (rdPts L0 nn (p + 4) (-1) b)) by
                    rw [HRD2.out]
                    unfold rdBand
                    rw [h4]
                    simp only
                    rw [if_neg c5]
                    rfl)
                  have HN4 := Lib.hid hn4
                  have HP4 := Lib.hid hp4
                  clear h4 c5 hn4 hp4 HPB HB5
                  go_wp2_with fail
                  go_loopw [18, 96] (fun lv iv wr2 => ∃ (i q : Nat) (last : Int) (bb : Band), i ≤ nn ∧ iv = .int .u64 (i : Int) ∧ lv = .int .i64 last ∧ bb.ok ∧ rdPts L0 nn (p + 4) (-1) b = rdPts L0 (nn - i) q last bb ∧ q ≤ L0.length ∧ HB wr2 rb 123 [.slice (some ⟨b0, o0, none⟩) e c, .int .i64 (q : Nat)] ∧ FileAt wr2 base fb ⟨m, x, fc.set k bb⟩ (.slice (some ⟨g, o, none⟩) Ls.length q2) Ls ∧ Upd [] w wr2) (fun _ iv _ => nn - (intOf iv).toNat)
                  case atStart => exact ⟨0, p + 4, -1, b, Nat.zero_le _, rfl, rfl, HBOK.out, rfl, HP4.out, HBE.out, HFI5.out, HU5.out⟩
                  case round =>
                    obtain ⟨i, q, last, bb, hi, rfl, rfl, hbk, hrp, hq, hBq, hfq, hUq⟩ := hrel
                    have hkf : k < fc.length := by have := HFC.out; have := HKI.out; omega
                    have HBQ := Lib.hid hBq
                    have HFQ := Lib.hid hfq
                    have HUQ := Lib.hid hUq
                    have HRP := Lib.hid hrp
                    have HBK := Lib.hid hbk
                    have HQ := Lib.hid hq
                    have HKF := Lib.hid hkf
                    have HSB := Lib.hid (show (fc.set k bb)[k]? = some bb from List.getElem?_set_self hkf)
                    by_cases hin : i < nn
                    · have hbd := hfq.band k L bb HLX.out HSB.out
                      have HBDQ := Lib.hid hbd
                      have r1 := hBq.cell (j := 1) rfl
                      have hii : (i : Int) < (nn : Int) := by omega
                      have HPT := Lib.hid (point_calls F rb _ L0 q L bb last _ hBq (HRL.out.upd0 hUq) HL0b.out hq (by have := HLL.out; omega) (by have := HLL.out; omega) HFR.out hbd hbk HLI.out HFM.out.1 HFM.out.2)
                      have HRS := Lib.hid (show rdPts L0 nn (p + 4) (-1) b = match pointP bb L0 q last with
                          | none => .error q
                          | some r => rdPts L0 (nn - (i + 1)) (q + 24) r.t (bb.put r.t r.v) by
                        rw [hrp, show nn - i = (nn - (i + 1)) + 1 by omega, rdPts_succ])
                      have hwi : IntKind.u64.wrap ((i : Int) + 1) = (i : Int) + 1 := by have := HN4.out; simp [IntKind.wrap, IntKind.bits, IntKind.signed]; omega
                      clear hbk hrp hq hBq hfq hUq hkf hbd
                      cases hpp : pointP bb L0 q last with
                      | none =>
                        rw [hpp] at HPT HRS
                        have hPP : P = .error (q, 195) := by
                          rw [HPC.out, HRS.out]
                          rfl
                        clear hpp HPC HPO
                        subst hPP
                        go_wp2_with fail
                        refine HPT.out.mono ?_
                        rintro x3 w6 ⟨rfl, -, -, hU6⟩
                        have HU6 := Lib.hid (HUQ.out.trans hU6 (fun _ h => h) (fun y hy => .inr (by
                          have h1 := HFI.out.up _ (mem_muts HLX.out).1
                          have h2 := HFI.out.up _ (mem_muts HLX.out).2
                          have h3 := HBS.out.1
                          have h4 := HW3S.out
                          have h5 := HRW.out
                          simp at hy
                          rcases hy with rfl | rfl | rfl <;> omega)))
                        clear hU6
                        go_wp2
                        go_ret3
                        exact ⟨rfl, HU6.out⟩
                      | some r =>
                        rw [hpp] at HPT HRS
                        have HPK := Lib.hid (pointP_ok HBK.out hpp)
                        clear hpp
                        go_wp2_with fail
                        refine HPT.out.mono ?_
                        rintro x3 w6 ⟨rfl, ⟨q', hq1, hq2, hB6⟩, hbd6, hU6⟩
                        obtain rfl : q' = q + 24 := hq2 rfl
                        have HU6 := Lib.hid (HUQ.out.trans hU6 (fun _ h => h) (fun y hy => .inr (by
                          have h1 := HFI.out.up _ (mem_muts HLX.out).1
                          have h2 := HFI.out.up _ (mem_muts HLX.out).2
                          have h3 := HBS.out.1
                          have h4 := HW3S.out
                          have h5 := HRW.out
                          simp at hy
                          rcases hy with rfl | rfl | rfl <;> omega)))
                        have hf6 := HFQ.out.put3 HBQ.out HLX.out HSB.out hU6 hbd6
                        simp only [List.set_set] at hf6
                        have HF6 := Lib.hid hf6
                        have HB6 := Lib.hid hB6
                        have HQ6 := Lib.hid hq1
                        clear hU6 hf6 hB6 hq1 hq2 hbd6 r1
                        go_wp2
                        exact ⟨⟨i + 1, q + 24, r.t, bb.put r.t r.v, hin, rfl, rfl, HPK.out, HRS.out, HQ6.out, HB6.out, HF6.out, HU6.out⟩, by show nn - ((i : Int) + 1).toNat < nn - (i : Int).toNat; omega⟩
                    · obtain rfl : i = nn := by omega
                      have HRE := Lib.hid (show rdBands L0 (s.map newB) p0 = resT ((fc.set k bb).take (k + 1)) (rdBands L0 ((fc.set k bb).drop (k + 1)) q) by
                        rw [HRD3.out, hrp, Nat.sub_self]
                        show resT (fc.take k) (resT [bb] (rdBands L0 (fc.drop (k + 1)) q)) = _
                        rw [resT_resT, List.drop_set_of_lt (by omega), List.take_add_one, HSB.out, List.take_set_of_le (by omega)]
                        rfl)
                      have HWK : Hid (wrap64 ((k : Int) + 1) = (k : Int) + 1) := w64 (by have := HLS.out; have := HKI.out; unfold I64; omega)
                      clear hbk hrp hq hBq hfq hUq hkf
                      go_wp2
                      rw [HWK.out]
                      refine ⟨⟨k + 1, q, fc.set k bb, HKI.out, rfl, by rw [List.length_set]; exact HFC.out, ?_, HRE.out, HQ.out, HBQ.out, HFQ.out, HUQ.out⟩, by show Ls.length - ((k : Int) + 1).toNat < Ls.length - (k : Int).toNat; have := HKI.out; omega⟩
                      intro b' hb'
                      rcases List.mem_or_eq_of_mem_set hb' with hb' | rfl
                      · exact HOK.out b' hb'
                      · exact HBK.out
            · obtain rfl : k = Ls.length := by omega
              have hres : rdBands L0 (s.map newB) p0 = .ok (fc, p) := by
                rw [hrd, List.take_of_length_le (by omega), List.drop_of_length_le (by omega)]
                simp [rdBands, resT]
              have HPF := Lib.hid (show P = if p < e then .error (p, 195) else .ok ⟨m, x, fc⟩ by
                rw [HPO.out]
                show opnT L0 m x (rdBands L0 (s.map newB) p0) = _
                rw [hres]
                show (if p < L0.length then _ else _) = _
                rw [HLL.out.1])
              have r1 := hBr.cell (j := 1) rfl
              by_cases c3 : p < e
              · have d3 : decide (p < e) = true := decide_eq_true c3
                have d3i : decide ((p : Int) < (e : Int)) = true := decide_eq_true (by omega)
                have hPP : P = .error (p, 195) := by rw [HPF.out, if_pos c3]
                have x0 := fun d os => rg_cell r1 d os
                clear HPF HPO hres hfl hok hrd hp hBr hfile hU c3
                subst hPP
                go_wp2_with fail
                refine wp_region_quiet_below (by kernel_rfl) (by kernel_rfl) ?_
                repeat (go_big_quiet_step (fail))
                refine wpQuiet_nil ?_
                rintro _ ⟨⟨dq, osq⟩, rfl⟩
                clear x0
                go_wp2
                go_ret3
                exact ⟨rfl, HU.out.then (rg_upd _ _ _)⟩
              · have d3 : decide (p < e) = false := decide_eq_false c3
                have d3i : decide ((p : Int) < (e : Int)) = false := decide_eq_false (by omega)
                have hPP : P = .ok ⟨m, x, fc⟩ := by rw [HPF.out, if_neg c3]
                clear HPF HPO hres hfl hok hrd hp hBr hfile hU c3
                subst hPP
                go_wp2
                go_ret3
                exact ⟨base, fb, _, Ls, rfl, Nat.le_trans HW3S.out HBS.out.1, HBS.out.2, HFI.out, HU.out⟩
      · have d2 : (n != H) = true := by simpa using c2
        have hPP : P = .error (e, 196) := by rw [HPP.out, if_pos c2]
        clear HPP c2
        subst hPP
        go_wp2
        go_ret3
        exact ⟨rfl, HU2.out⟩
    · obtain ⟨T, hT⟩ : ∃ T, T = strOfNums (l.take 4) := ⟨_, rfl⟩
      rw [← hT] at hcv
      have hTn : T ≠ ⟨#[82, 82, 65, 49]⟩ := by
        intro e
        rw [hT] at e
        have h1 := nums_of (l := l.take 4) (fun x hx => hb x (List.mem_of_mem_take hx))
        rw [e] at h1
        exact c1 h1.symm
      have hPP : P = .error (0, 195) := by rw [HP.out]; unfold openP; rw [if_neg c0, if_pos c1]
      have hTb : (T.toList == [82, 82, 65, 49]) = false := by
        rw [ByteArray.toList_eq]
        exact beq_false_of_ne (fun e => hTn (ByteArray.ext (Array.ext' e)))
      clear hTn
      clear HP c0 hT c1 hr
      subst hPP
      go_enter Try.func28, Try.ntmps28
      go_wp2
      go_ret3
      exact ⟨rfl, Upd.refl _ _⟩
end Go.Proofs.Ytdjpcinibgbglaa
