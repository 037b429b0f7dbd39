/- (*reader).point. -/
import Derived.Test.YtdjpcinibgbglaaNum
import Derived.Test.YtdjpcinibgbglaaFileL
import Derived.Test.YtdjpcinibgbglaaWithin
set_option linter.unusedVariables false
set_option linter.unusedSimpArgs false
namespace Go.Proofs.Ytdjpcinibgbglaa
open Go.RowKit Go.Sort
def sI (n : Int) : Int := if n < 9223372036854775808 then n else n - 18446744073709551616
theorem sI_wrap {n : Int} (h : U64 n) : IntKind.i64.wrap n = sI n := by
  unfold U64 at h
  unfold sI
  by_cases h2 : n < 9223372036854775808
  · rw [if_pos h2]; simp [IntKind.wrap, IntKind.bits, IntKind.signed]; omega
  · rw [if_neg h2]; simp [IntKind.wrap, IntKind.bits, IntKind.signed]; omega
theorem sI_I64 {n : Int} (h : U64 n) : I64 (sI n) := by unfold U64 at h; unfold sI I64; split <;> omega
structure PntV where
  t : Int
  h : Int
  l : Int
def PntV.v (q : PntV) : Int := q.h * 18446744073709551616 + q.l
def rdPnt (l : List Int) (p : Nat) : PntV := ⟨sI (num ((l.drop p).take 8)), sI (num ((l.drop (p + 8)).take 8)), num ((l.drop (p + 16)).take 8)⟩
def pointP (b : Band) (l : List Int) (p : Nat) (last : Int) : Option Pt :=
  if p + 24 ≤ l.length ∧ sec (rdPnt l p).t = true ∧ (rdPnt l p).t % b.step = 0 ∧ last < (rdPnt l p).t ∧ b.pl[b.place (rdPnt l p).t]? = some none ∧ fitV (rdPnt l p).v b.step = true then some ⟨(rdPnt l p).t, (rdPnt l p).v⟩ else none
theorem num8 {l : List Int} (hb : Byt l) (p : Nat) : U64 (num ((l.drop p).take 8)) := by
  have h1 := num_bd ((l.drop p).take 8) (fun y hy => hb y (List.mem_of_mem_drop (List.mem_of_mem_take hy)))
  have h2 : ((l.drop p).take 8).length ≤ 8 := by rw [List.length_take]; omega
  have key : ∀ {i j : Nat}, i ≤ j → (256 : Int) ^ i ≤ 256 ^ j := by
    intro i j h
    induction h with
    | refl => exact Int.le_refl _
    | step _ ih =>
      rename_i m _
      have h1 : (0 : Int) < 256 ^ m := Int.pow_pos (by decide)
      rw [Int.pow_succ]
      omega
  have h3 : (256 : Int) ^ ((l.drop p).take 8).length ≤ 18446744073709551616 := Int.le_trans (key h2) (by decide)
  unfold U64
  omega
theorem numAt_u {l : List Int} (hb : Byt l) (p : Nat) : U64 ((numAt l p 8).getD 0) := by
  unfold numAt
  split
  · exact num8 hb p
  · exact ⟨by decide, by decide⟩
def nx8 (l : List Int) (p : Nat) : Nat := if (numAt l p 8).isSome = true then p + 8 else p
theorem nx8_le {l : List Int} {p : Nat} (hp : p ≤ l.length) : nx8 l p ≤ l.length := by
  unfold nx8 numAt
  split <;> simp_all
theorem nx3 {l : List Int} {p : Nat} : (numAt l (nx8 l (nx8 l p)) 8).isSome = decide (p + 24 ≤ l.length) := by
  unfold nx8 numAt
  by_cases h1 : p + 8 ≤ l.length
  · by_cases h2 : p + 8 + 8 ≤ l.length
    · by_cases h3 : p + 8 + 8 + 8 ≤ l.length
      · first | (simp [h1, h2, h3]; done) | (simp [h1, h2, h3]; omega)
      · first | (simp [h1, h2, h3]; done) | (simp [h1, h2, h3]; omega)
    · first | (simp [h1, h2]; done) | (simp [h1, h2]; omega)
  · first | (simp [h1]; done) | (simp [h1]; omega)
theorem nx_all {l : List Int} {p : Nat} (h : p + 24 ≤ l.length) : nx8 l p = p + 8 ∧ nx8 l (nx8 l p) = p + 16 ∧ numAt l p 8 = some (num ((l.drop p).take 8)) ∧ numAt l (nx8 l p) 8 = some (num ((l.drop (p + 8)).take 8)) ∧ numAt l (nx8 l (nx8 l p)) 8 = some (num ((l.drop (p + 16)).take 8)) := by
  have e1 : nx8 l p = p + 8 := by unfold nx8 numAt; rw [if_pos (show p + 8 ≤ l.length by omega)]; rfl
  have e2 : nx8 l (p + 8) = p + 16 := by unfold nx8 numAt; rw [if_pos (show p + 8 + 8 ≤ l.length by omega)]; rfl
  rw [e1, e2]
  unfold numAt
  exact ⟨rfl, rfl, if_pos (by omega), if_pos (by omega), if_pos (by omega)⟩
set_option maxRecDepth 20000 in
set_option maxHeartbeats 4000000 in
theorem point_calls (F : Nat → Prop) (rb : Nat) (sl : Value) (l : List Int) (p : Nat) (L : Loc) (b : Band) (last : Int) (w : World) (hB : HB w rb 123 [sl, .int .i64 p]) (hr : RowK w F bc 1 sl l) (hb : Byt l) (hp : p ≤ l.length) (hl0 : 0 < l.length) (hl : l.length ≤ 140737488355328) (hF : ¬ F rb)
    (hbd : BandAt w L b) (hok : b.ok) (hli : L.l ≠ L.i) (hF2 : ¬ F L.l) (hF3 : ¬ F L.i) :
    Calls Try.prog 54 #[.pointer (some ⟨rb, 0, none⟩), pB L.b, .int .i64 last] w fun e w' => e = .returned (.tuple #[.int .i64 (((pointP b l p last).map Pt.t).getD 0), .bool (pointP b l p last).isSome]) ∧ (∃ p' : Nat, p' ≤ l.length ∧ ((pointP b l p last).isSome = true → p' = p + 24) ∧ HB w' rb 123 [sl, .int .i64 p']) ∧
      BandAt w' L (((pointP b l p last).map fun q => b.put q.t q.v).getD b) ∧ Upd [rb, L.l, L.i] w w' := by
  have HR := Lib.hid hr
  have HBY := Lib.hid hb
  have HOK := Lib.hid hok
  have hn1 : rb ≠ L.b := hB.ne hbd.hb (by decide)
  have hn2 : rb ≠ L.l := hB.ne hbd.hl (by decide)
  have hn3 : rb ≠ L.i := hB.ne hbd.hi (by decide)
  have HNE := Lib.hid (And.intro hn1 (And.intro hn2 hn3))
  have HBD := Lib.hid hbd
  have hNC := fun q W (h1 : HB W rb 123 [sl, .int .i64 (q : Nat)]) (h2 : RowK W F bc 1 sl l) (h3 : q ≤ l.length) => number_calls F rb sl l q 8 W h1 h2 hb (Nat.le_refl _) h3 hl0 hl hF
  have HNC := Lib.hid hNC
  have HBR := Lib.hid hB
  have HF := Lib.hid (And.intro hF (And.intro hF2 hF3))
  have hp2 := nx8_le hp
  have hp3 := nx8_le hp2
  clear hr hbd hok hn1 hn2 hn3 hNC hB hF hF2 hF3
  obtain ⟨P, hP⟩ : ∃ P, P = pointP b l p last := ⟨_, rfl⟩
  rw [← hP]
  have HPQ := Lib.hid hP
  clear hP
  go_enter Try.func54, Try.ntmps54
  go_wp2_with fail
  refine (HNC.out p _ HBR.out HR.out hp).mono ?_
  rintro e w1 ⟨rfl, hB1, hU1⟩
  have HR1 := Lib.hid (rowK_ne HR.out HF.out.1 hU1)
  have HB1 := Lib.hid (show HB w1 rb 123 [sl, .int .i64 ((nx8 l p : Nat) : Int)] from hB1)
  have HU1 := Lib.hid hU1
  obtain ⟨T0, hT0⟩ : ∃ T0, T0 = (numAt l p 8).getD 0 := ⟨_, rfl⟩
  obtain ⟨o1, ho1⟩ : ∃ o1, o1 = (numAt l p 8).isSome := ⟨_, rfl⟩
  rw [← hT0, ← ho1]
  have HT0 := Lib.hid hT0
  clear hB1 hU1 hT0 ho1
  go_wp2_with fail
  refine (HNC.out (nx8 l p) _ HB1.out HR1.out hp2).mono ?_
  rintro e w2 ⟨rfl, hB2, hU2⟩
  have HR2 := Lib.hid (rowK_ne HR1.out HF.out.1 hU2)
  have HB2 := Lib.hid (show HB w2 rb 123 [sl, .int .i64 ((nx8 l (nx8 l p) : Nat) : Int)] from hB2)
  have HU2 := Lib.hid (HU1.out.then hU2)
  obtain ⟨H0, hH0⟩ : ∃ H0, H0 = (numAt l (nx8 l p) 8).getD 0 := ⟨_, rfl⟩
  obtain ⟨o2, ho2⟩ : ∃ o2, o2 = (numAt l (nx8 l p) 8).isSome := ⟨_, rfl⟩
  rw [← hH0, ← ho2]
  have HH0 := Lib.hid hH0
  clear hB2 hU2 hH0 ho2
  go_wp2_with fail
  refine (HNC.out (nx8 l (nx8 l p)) _ HB2.out HR2.out hp3).mono ?_
  rintro e w3 ⟨rfl, hB3, hU3⟩
  have hp4 : nx8 l (nx8 l (nx8 l p)) ≤ l.length := nx8_le hp3
  have HB3 := Lib.hid (show HB w3 rb 123 [sl, .int .i64 ((nx8 l (nx8 l (nx8 l p)) : Nat) : Int)] from hB3)
  have HU3 := Lib.hid (HU2.out.then hU3)
  obtain ⟨L0, hL0⟩ : ∃ L0, L0 = (numAt l (nx8 l (nx8 l p)) 8).getD 0 := ⟨_, rfl⟩
  have HL0 := Lib.hid hL0
  rw [← hL0, nx3]
  have hwT : IntKind.i64.wrap T0 = sI T0 := sI_wrap (by rw [HT0.out]; exact numAt_u HBY.out _)
  have hwH : IntKind.i64.wrap H0 = sI H0 := sI_wrap (by rw [HH0.out]; exact numAt_u HBY.out _)
  have hIT : I64 (sI T0) := sI_I64 (by rw [HT0.out]; exact numAt_u HBY.out _)
  have hIH : I64 (sI H0) := sI_I64 (by rw [HH0.out]; exact numAt_u HBY.out _)
  have hUL : U64 L0 := by rw [HL0.out]; exact numAt_u HBY.out _
  have HI := Lib.hid (And.intro hIT (And.intro hIH hUL))
  have HBD3 := Lib.hid (HBD.out.upd HU3.out (by simp; exact fun e => HNE.out.1 e.symm) (by simp; exact fun e => HNE.out.2.1 e.symm) (by simp; exact fun e => HNE.out.2.2 e.symm))
  clear hB3 hU3 hL0 hIT hIH hUL
  obtain ⟨t, ht⟩ : ∃ t, t = sI T0 := ⟨_, rfl⟩
  obtain ⟨h, hh⟩ : ∃ h, h = sI H0 := ⟨_, rfl⟩
  rw [← ht] at hwT HI
  rw [← hh] at hwH HI
  obtain ⟨W4, hW4⟩ : ∃ W4, W4 = w3.alloc (.cells #[.int .i64 h, .int .u64 L0] 47) := ⟨_, rfl⟩
  have hv4 : HB W4 w3.heap.size 47 [.int .i64 h, .int .u64 L0] := by rw [hW4]; exact HB.new w3 47 [.int .i64 h, .int .u64 L0]
  have HU4 := Lib.hid (show Upd [rb] w W4 by rw [hW4]; exact HU3.out.alloc _)
  have HB4 := Lib.hid (show HB W4 rb 123 [sl, .int .i64 ((nx8 l (nx8 l (nx8 l p)) : Nat) : Int)] by rw [hW4]; exact HB3.out.alloc _)
  have HBD4 := Lib.hid (show BandAt W4 L b by rw [hW4]; exact HBD3.out.upd0 ((Upd.refl _ _).alloc _))
  have HV4 := Lib.hid hv4
  have HTE := Lib.hid (And.intro ht hh)
  have hbb := HOK.out.b
  clear hv4 ht hh
  obtain ⟨z, hz⟩ : ∃ z, h * 18446744073709551616 + L0 = z := ⟨_, rfl⟩
  have hz128 : I128 z := by
    have h1 := HI.out.2.1
    have h2 := HI.out.2.2
    unfold I64 at h1
    unfold U64 at h2
    unfold I128
    omega
  have HS := Lib.hid (fun W => (second_calls t W).mono (fun e w' (hw : e = .returned (.bool (sec t)) ∧ w' = W) => show e = .returned (.bool (sec t)) ∧ Upd [] W w' from ⟨hw.1, by rw [hw.2]; exact Upd.refl _ _⟩))
  have hwi := fun W => within_calls z b.step W hz128 hbb.1 hbb.2.1
  rw [← wide_of hz HI.out.2.2] at hwi
  have HWI := Lib.hid hwi
  have x0 := fun d os => rg_cell (HBD4.out.hb.cell (j := 0) rfl) d os
  have x1 := fun d os => rg_cell (HBD4.out.hb.cell (j := 3) rfl) d os
  have x2 := fun d os => rg_cell (HV4.out.cell (j := 0) rfl) d os
  have x3 := fun d os => rg_cell (HV4.out.cell (j := 1) rfl) d os
  have e3 : (b.step == 0) = false := by simp; omega
  clear hwi
  by_cases c0 : p + 24 ≤ l.length
  · have d0 : decide (p + 24 ≤ l.length) = true := decide_eq_true c0
    have hrd : rdPnt l p = ⟨t, h, L0⟩ := by
      have h1 := nx_all c0
      unfold rdPnt
      rw [HTE.out.1, HTE.out.2, HT0.out, HH0.out, HL0.out, h1.2.2.1, h1.2.2.2.1, h1.2.2.2.2]
      rfl
    have hzv : PntV.v ⟨t, h, L0⟩ = z := hz
    have HPP := Lib.hid (show pointP b l p last = if sec t = true ∧ t % b.step = 0 ∧ last < t ∧ b.pl[b.place t]? = some none ∧ fitV z b.step = true then some ⟨t, z⟩ else none by
      unfold pointP
      rw [hrd]
      simp only [hzv, c0, true_and])
    clear hrd hzv
    by_cases c1 : sec t = true
    · have htb : 0 ≤ t ∧ t ≤ 1099511627775 := by simpa [sec] using c1
      rw [c1] at HS
      have e1 := tmod_nn (s := b.step) htb.1
      have hpn := place_nat hbb.1 hbb.2.2.1 htb.1
      obtain ⟨xo, hxo⟩ : ∃ xo, b.pl[b.place t]? = some xo := ⟨_, List.getElem?_eq_getElem hpn.2⟩
      have HPL := Lib.hid (fun W (hW : Upd [] W4 W) => (place_calls L.b L.l L.i b t W (HBD4.out.hb.upd hW (by simp)) hbb.1 hbb.2.2.1 hbb.2.2.2.1 ⟨htb.1, by omega⟩).mono (fun e w' (hw : e = .returned (.int .i64 (b.place t : Int)) ∧ ∃ n, w' = W.drewN n) => show e = .returned (.int .i64 (b.place t : Int)) ∧ Upd [] W w' from ⟨hw.1, by obtain ⟨n, hn⟩ := hw.2; rw [hn]; exact drewN_upd _ _⟩))
      have x4 := fun d os => rg_cell (HBD4.out.fl hxo) d os
      obtain ⟨pk, hpk⟩ : ∃ pk, pk = b.place t := ⟨_, rfl⟩
      rw [← hpk] at HPL x4 hpn
      have hpI : (pk : Int) < (b.n : Int) := by omega
      by_cases c2 : t % b.step = 0
      · have d2 : (t % b.step != 0) = false := by rw [c2]; rfl
        by_cases c3 : last < t
        · have d3 : decide (t ≤ last) = false := decide_eq_false (by omega)
          cases xo with
          | some q =>
            have PP : P = none := by
              rw [HPQ.out, HPP.out, if_neg]
              rintro ⟨_, _, _, h4, _⟩
              rw [hxo] at h4
              cases h4
            clear HPP hxo hpk c1 c2 c3
            go_wp2_with fail
            rw [← hW4]
            clear hW4 hwT hwH
            refine wp_region_quiet_below (by kernel_rfl) (by kernel_rfl) ?_
            repeat (go_big_quiet_step (first
              | (go_at_call 41; exact rg_of (HS.out _))
              | (go_at_call 76; exact rg_of (HPL.out _ (rg_upd _ _ _)))
              | (go_at_call 42; exact rg_of (HWI.out _))))
            refine wpQuiet_nil ?_
            rintro _ ⟨⟨dq, osq⟩, rfl⟩
            clear x0 x1 x2 x3 x4
            have hU5 := rg_upd W4 dq osq
            have HU5 := Lib.hid (HU4.out.then0 hU5)
            have HB5 := Lib.hid (HB4.out.upd hU5 (by simp))
            have HBD5 := Lib.hid (HBD4.out.upd0 hU5)
            clear hU5
            subst PP
            go_wp2
            go_ret2
            exact ⟨rfl, ⟨_, hp4, by simp, HB5.out⟩, HBD5.out, HU5.out.mono (fun i hi => .inl (by simp at hi; simp [hi]))⟩
          | none =>
            by_cases c5 : fitV z b.step = true
            · have PP : P = some ⟨t, z⟩ := by rw [HPQ.out, HPP.out, if_pos ⟨c1, c2, c3, hxo, c5⟩]
              rw [c5] at HWI
              clear HPP hxo hpk c1 c2 c3 c5
              go_wp2_with fail
              rw [← hW4]
              clear hW4 hwT hwH
              refine wp_region_quiet_below (by kernel_rfl) (by kernel_rfl) ?_
              repeat (go_big_quiet_step (first
                | (go_at_call 41; exact rg_of (HS.out _))
                | (go_at_call 76; exact rg_of (HPL.out _ (rg_upd _ _ _)))
                | (go_at_call 42; exact rg_of (HWI.out _))))
              refine wpQuiet_nil ?_
              rintro _ ⟨⟨dq, osq⟩, rfl⟩
              clear x0 x1 x2 x3 x4
              have hU5 := rg_upd W4 dq osq
              have HU5 := Lib.hid (HU4.out.then0 hU5)
              have HB5 := Lib.hid (HB4.out.upd hU5 (by simp))
              have HBD5 := Lib.hid (HBD4.out.upd0 hU5)
              have hv5 := HV4.out.upd hU5 (by simp)
              have z0 := hv5.cell (j := 0) rfl
              have z1 := hv5.cell (j := 1) rfl
              have hput := bput_calls L b t z _ HBD5.out hbb.1 hbb.2.2.1 hbb.2.2.2.1 ⟨by omega, by omega⟩ hli
              rw [← wide_of hz HI.out.2.2] at hput
              have HPUT := Lib.hid hput
              have HNX := Lib.hid (show nx8 l (nx8 l (nx8 l p)) = p + 24 by
                have h1 := nx_all c0
                rw [h1.2.1]
                unfold nx8 numAt
                rw [if_pos (show p + 16 + 8 ≤ l.length by omega)]
                rfl)
              clear hU5 hv5 hput
              subst PP
              go_wp2_with fail
              refine HPUT.out.mono ?_
              rintro e w6 ⟨rfl, hU6, hBD6⟩
              have HU6 := Lib.hid (HU5.out.trans hU6 (U := [rb, L.l, L.i]) (fun i hi => by simp at hi; simp [hi]) (fun i hi => .inl (by simp at hi; rcases hi with hi | hi <;> simp [hi])))
              have HB6 := Lib.hid (HB5.out.upd hU6 (by simp; exact ⟨HNE.out.2.1, HNE.out.2.2⟩))
              have HBD6 := Lib.hid hBD6
              clear hU6 hBD6 z0 z1
              go_wp2
              go_ret2
              exact ⟨rfl, ⟨_, hp4, fun _ => HNX.out, HB6.out⟩, HBD6.out, HU6.out⟩
            · have c5' : fitV z b.step = false := by simpa using c5
              have PP : P = none := by
                rw [HPQ.out, HPP.out, if_neg]
                rintro ⟨_, _, _, _, h5⟩
                exact c5 h5
              rw [c5'] at HWI
              clear HPP hxo hpk c1 c2 c3 c5 c5'
              go_wp2_with fail
              rw [← hW4]
              clear hW4 hwT hwH
              refine wp_region_quiet_below (by kernel_rfl) (by kernel_rfl) ?_
              repeat (go_big_quiet_step (first
                | (go_at_call 41; exact rg_of (HS.out _))
                | (go_at_call 76; exact rg_of (HPL.out _ (rg_upd _ _ _)))
                | (go_at_call 42; exact rg_of (HWI.out _))))
              refine wpQuiet_nil ?_
              rintro _ ⟨⟨dq, osq⟩, rfl⟩
              clear x0 x1 x2 x3 x4
              have hU5 := rg_upd W4 dq osq
              have HU5 := Lib.hid (HU4.out.then0 hU5)
              have HB5 := Lib.hid (HB4.out.upd hU5 (by simp))
              have HBD5 := Lib.hid (HBD4.out.upd0 hU5)
              clear hU5
              subst PP
              go_wp2
              go_ret2
              exact ⟨rfl, ⟨_, hp4, by simp, HB5.out⟩, HBD5.out, HU5.out.mono (fun i hi => .inl (by simp at hi; simp [hi]))⟩
        · have d3 : decide (t ≤ last) = true := decide_eq_true (by omega)
          have PP : P = none := by
            rw [HPQ.out, HPP.out, if_neg]
            rintro ⟨_, _, h3, _⟩
            exact c3 h3
          clear HPP hxo hpk c1 c2 c3
          go_wp2_with fail
          rw [← hW4]
          clear hW4 hwT hwH
          refine wp_region_quiet_below (by kernel_rfl) (by kernel_rfl) ?_
          repeat (go_big_quiet_step (first
            | (go_at_call 41; exact rg_of (HS.out _))
            | (go_at_call 76; exact rg_of (HPL.out _ (rg_upd _ _ _)))
            | (go_at_call 42; exact rg_of (HWI.out _))))
          refine wpQuiet_nil ?_
          rintro _ ⟨⟨dq, osq⟩, rfl⟩
          clear x0 x1 x2 x3 x4
          have hU5 := rg_upd W4 dq osq
          have HU5 := Lib.hid (HU4.out.then0 hU5)
          have HB5 := Lib.hid (HB4.out.upd hU5 (by simp))
          have HBD5 := Lib.hid (HBD4.out.upd0 hU5)
          clear hU5
          subst PP
          go_wp2
          go_ret2
          exact ⟨rfl, ⟨_, hp4, by simp, HB5.out⟩, HBD5.out, HU5.out.mono (fun i hi => .inl (by simp at hi; simp [hi]))⟩
      · have d2 : (t % b.step != 0) = true := by simpa using c2
        have PP : P = none := by
          rw [HPQ.out, HPP.out, if_neg]
          rintro ⟨_, h2, _⟩
          exact c2 h2
        clear HPP hxo hpk c1 c2
        go_wp2_with fail
        rw [← hW4]
        clear hW4 hwT hwH
        refine wp_region_quiet_below (by kernel_rfl) (by kernel_rfl) ?_
        repeat (go_big_quiet_step (first
          | (go_at_call 41; exact rg_of (HS.out _))
          | (go_at_call 76; exact rg_of (HPL.out _ (rg_upd _ _ _)))
          | (go_at_call 42; exact rg_of (HWI.out _))))
        refine wpQuiet_nil ?_
        rintro _ ⟨⟨dq, osq⟩, rfl⟩
        clear x0 x1 x2 x3 x4
        have hU5 := rg_upd W4 dq osq
        have HU5 := Lib.hid (HU4.out.then0 hU5)
        have HB5 := Lib.hid (HB4.out.upd hU5 (by simp))
        have HBD5 := Lib.hid (HBD4.out.upd0 hU5)
        clear hU5
        subst PP
        go_wp2
        go_ret2
        exact ⟨rfl, ⟨_, hp4, by simp, HB5.out⟩, HBD5.out, HU5.out.mono (fun i hi => .inl (by simp at hi; simp [hi]))⟩
    · have c1' : sec t = false := by simpa using c1
      have PP : P = none := by
        rw [HPQ.out, HPP.out, if_neg]
        rintro ⟨h1, _⟩
        exact c1 h1
      rw [c1'] at HS
      clear HPP c1 c1'
      go_wp2_with fail
      rw [← hW4]
      clear hW4 hwT hwH
      refine wp_region_quiet_below (by kernel_rfl) (by kernel_rfl) ?_
      repeat (go_big_quiet_step (first
        | (go_at_call 41; exact rg_of (HS.out _))
        | (go_at_call 42; exact rg_of (HWI.out _))))
      refine wpQuiet_nil ?_
      rintro _ ⟨⟨dq, osq⟩, rfl⟩
      clear x0 x1 x2 x3
      have hU5 := rg_upd W4 dq osq
      have HU5 := Lib.hid (HU4.out.then0 hU5)
      have HB5 := Lib.hid (HB4.out.upd hU5 (by simp))
      have HBD5 := Lib.hid (HBD4.out.upd0 hU5)
      clear hU5
      subst PP
      go_wp2
      go_ret2
      exact ⟨rfl, ⟨_, hp4, by simp, HB5.out⟩, HBD5.out, HU5.out.mono (fun i hi => .inl (by simp at hi; simp [hi]))⟩
  · have d0 : decide (p + 24 ≤ l.length) = false := decide_eq_false c0
    have PP : P = none := by
      rw [HPQ.out]
      unfold pointP
      rw [if_neg]
      rintro ⟨h1, _⟩
      exact c0 h1
    clear c0
    go_wp2_with fail
    rw [← hW4]
    clear hW4 hwT hwH
    refine wp_region_quiet_below (by kernel_rfl) (by kernel_rfl) ?_
    repeat (go_big_quiet_step (first
      | (go_at_call 41; exact rg_of (HS.out _))
      | (go_at_call 42; exact rg_of (HWI.out _))))
    refine wpQuiet_nil ?_
    rintro _ ⟨⟨dq, osq⟩, rfl⟩
    clear x0 x1 x2 x3
    have hU5 := rg_upd W4 dq osq
    have HU5 := Lib.hid (HU4.out.then0 hU5)
    have HB5 := Lib.hid (HB4.out.upd hU5 (by simp))
    have HBD5 := Lib.hid (HBD4.out.upd0 hU5)
    clear hU5
    subst PP
    go_wp2
    go_ret2
    exact ⟨rfl, ⟨_, hp4, by simp, HB5.out⟩, HBD5.out, HU5.out.mono (fun i hi => .inl (by simp at hi; simp [hi]))⟩
end Go.Proofs.Ytdjpcinibgbglaa
