/- (*tumblerref19.File).read. -/
import Derived.Test.YtdjpcinibgbglaaRRd
import Derived.Test.YtdjpcinibgbglaaROpP
import Derived.Test.YtdjpcinibgbglaaRCre
set_option linter.unusedVariables false
set_option linter.unusedSimpArgs false
namespace Go.Proofs.Ytdjpcinibgbglaa
open Go.RowKit Go.Sort
abbrev TP : TypeId := 41
abbrev TRF : TypeId := 38
abbrev TRR : TypeId := 132
def ReadQ (N0 hbk rb n cap k : Nat) (hs : List Value) (S : ByteArray) (w w' : World) (e : Ending) : Except Nat (Band × Nat) → Prop
  | .error q => e = .returned (.tuple #[.int .i64 (q : Nat), .bool false]) ∧ Upd [rb, hbk] w w'
  | .ok (b', q) => e = .returned (.tuple #[.int .i64 0, .bool true]) ∧ ∃ v, HB w' rb TRR [.string S, .int .i64 (q : Nat)] ∧ w'.ownsRow N0 TP 1 (.slice (some ⟨hbk, 0, none⟩) n cap) n (hs.set k v) ∧ w'.ownsRow w.heap.size 49 3 v b'.pts.length (b'.pts.flatMap ptR) ∧ q ≤ S.size ∧ Upd [rb, hbk] w w'
theorem sI_sec {n : Int} (h : U64 n) : sec (sI n) = decide (n ≤ 1099511627775) := by
  unfold U64 at h
  unfold sI sec
  split
  · by_cases h2 : n ≤ 1099511627775 <;> simp [h2, h.1]
  · have h2 : ¬ n ≤ 1099511627775 := by omega
    simp [h2]
    omega
theorem numAt_ok {l : List Int} {p k : Nat} (h : p + k ≤ l.length) : numAt l p k = some (num ((l.drop p).take k)) := by unfold numAt; rw [if_pos h]
set_option maxRecDepth 40000 in
set_option maxHeartbeats 8000000 in
theorem read_calls (N0 fbx hbk rb n cap k : Nat) (m x : Int) (sv : Value) (Fs : Nat → Prop) (specs : List Spc) (s : Spc) (hs : List Value) (S : ByteArray) (p : Nat) (w : World)
    (hF : HB w fbx TRF [.int .i64 m, .int .i64 x, sv, .slice (some ⟨hbk, 0, none⟩) n cap]) (hR : HB w rb TRR [.string S, .int .i64 p]) (hS : RowK w Fs spcC 2 sv specs) (hFs : ∀ b, Fs b → b ≠ rb ∧ b ≠ hbk) (hk : specs[k]? = some s) (hok : okSpc s = true)
    (hH : w.ownsRow N0 TP 1 (.slice (some ⟨hbk, 0, none⟩) n cap) n hs) (hnk : hs[k]? = some (.slice none 0 0)) (hN : N0 ≤ w.heap.size) (hp : p ≤ S.size) (hl : S.size ≤ 140737488355328) :
    Calls Try.prog 58 #[.pointer (some ⟨fbx, 0, none⟩), .pointer (some ⟨rb, 0, none⟩), .int .i64 k] w fun e w' => ReadQ N0 hbk rb n cap k hs S w w' e (rdBand (nums S) p (newB s)) := by
  obtain ⟨b0, hb0⟩ : ∃ b0, b0 = newB s := ⟨_, rfl⟩
  have hbk0 := newB_ok hok
  rw [← hb0] at hbk0
  have hsp : s = (b0.step, (b0.n : Int)) := by
    have h1 := okSpc_iff.1 hok
    rw [hb0]
    show s = (s.1, (((List.replicate s.2.toNat (none : Option Pt)).length : Nat) : Int))
    rw [List.length_replicate]
    exact Prod.ext rfl (by show s.2 = ((s.2.toNat : Nat) : Int); omega)
  rw [← hb0]
  obtain ⟨RB, hRB⟩ : ∃ RB, RB = rdBand (nums S) p b0 := ⟨_, rfl⟩
  rw [← hRB]
  have HRB := Lib.hid hRB
  clear hRB
  have hbb := hbk0.b
  obtain ⟨AS, cS, rfl, hq1, hq2, _⟩ := hS.shape
  have hkn : k < specs.length := (List.getElem?_eq_some_iff.1 hk).1
  have hspl := Nat.le_trans hq1 (Nat.le_trans hq2 maxLen_le)
  have hkl : k < hs.length := (List.getElem?_eq_some_iff.1 hnk).1
  have hhl : hs.length = n := by have := hH.1; omega
  have hnm : n ≤ 9223372036854775807 := by
    obtain ⟨_, _, h1, h2, h3, _⟩ := own_shape hH
    injection h1 with _ _ h1
    subst h1
    exact Nat.le_trans h2 (Nat.le_trans h3 maxLen_le)
  obtain ⟨g, o, rfl, hg, hc⟩ := hS.at_ hk
  rw [hsp] at hc
  have hsb : HB (w.alloc (.cells #[.int .i64 b0.step, .int .i64 (b0.n : Int)] 44)) w.heap.size 44 [.int .i64 b0.step, .int .i64 (b0.n : Int)] := HB.new w _ _
  have hU1 := (Upd.refl [] w).alloc (.cells #[.int .i64 b0.step, .int .i64 (b0.n : Int)] 44)
  have z2 := hF.cell (j := 2) rfl
  have z3 : w.cell? ⟨g, o + k * 2, none⟩ = some (.int .i64 b0.step) := by simpa using hc 0 _ rfl
  have z4 : w.cell? ⟨g, o + k * 2 + 1, none⟩ = some (.int .i64 (b0.n : Int)) := hc 1 _ rfl
  have y1 := (hR.upd hU1 (by simp)).cell (j := 1) rfl
  have hkI : (k : Int) < (specs.length : Int) := by omega
  have hkn' : (k : Int) < (n : Int) := by omega
  have HF1 := Lib.hid (hF.upd hU1 (by simp))
  have HR1 := Lib.hid (hR.upd hU1 (by simp))
  have HH1 := Lib.hid (own_upd hH hU1 (by simp))
  have HSB := Lib.hid hsb
  have HNK := Lib.hid hnk
  have HKL := Lib.hid (And.intro hkl hhl)
  have HB0 := Lib.hid hb0
  have HOK := Lib.hid hok
  have HSP := Lib.hid hsp
  have hwn : IntKind.u64.wrap (b0.n : Int) = (b0.n : Int) := by simp [IntKind.wrap, IntKind.bits, IntKind.signed]; omega
  have hnl := nums_len S
  have HU1 := Lib.hid hU1
  have HNS := Lib.hid hN
  have HNE := Lib.hid (show fbx ≠ rb ∧ fbx ≠ hbk from ⟨hF.ne hR (by decide), by
    obtain ⟨cs, hh⟩ := own_HB hH
    exact hF.ne hh (by decide)⟩)
  obtain ⟨W1, hW1⟩ : ∃ W1, W1 = w.alloc (.cells #[.int .i64 b0.step, .int .i64 (b0.n : Int)] 44) := ⟨_, rfl⟩
  have hszW : W1.heap.size = w.heap.size + 1 := by rw [hW1]; simp
  rw [← hW1] at HU1 HSB HH1 HR1 HF1
  have HSZ := Lib.hid hszW
  have hby : Byt (nums S) := fun x hx => by
    unfold nums at hx
    obtain ⟨u, _, rfl⟩ := List.mem_map.1 hx
    have := u.toNat_lt
    omega
  have HBY := Lib.hid hby
  have HNL := Lib.hid hnl
  have HRN := Lib.hid (rnumber_calls rb S p 4 W1 HR1.out (by omega) hp hl)
  have hpp : p ≤ 140737488355328 := by omega
  clear hF hR hS hFs hk hok hH hnk hN hb0 hsp hU1 hc hsb hkl hhl hq1 hq2 hszW hby hg
  go_enter Try.func58, Try.ntmps58
  go_wp2_with fail
  rw [← hW1]
  refine HRN.out.mono ?_
  clear z2 z3 z4 y1
  by_cases c4 : p + 4 ≤ S.size
  · have e4 := numAt_ok (l := nums S) (p := p) (k := 4) (by rw [hnl]; exact c4)
    have hcb := num4_bd HBY.out p
    rw [e4] at hcb ⊢
    simp only [Option.getD_some, Option.isSome_some, if_true] at hcb ⊢
    obtain ⟨c, hc⟩ : ∃ c, c = num (((nums S).drop p).take 4) := ⟨_, rfl⟩
    rw [← hc] at e4 hcb ⊢
    have hrd : rdBand (nums S) p b0 = if (b0.n : Int) < c then .error p else rdPts (nums S) c.toNat (p + 4) (-1) b0 := by unfold rdBand; rw [e4]
    rintro e w2 ⟨rfl, hR2, hU2⟩
    by_cases c5 : (b0.n : Int) < c
    · obtain rfl : RB = .error p := by rw [HRB.out, hrd, if_pos c5]
      clear HRB
      have d5 : decide ((b0.n : Int) < c) = true := decide_eq_true c5
      have s1 := (HSB.out.upd hU2 (by simp; exact HSB.out.ne HR1.out (by decide))).cell (j := 1) rfl
      have HUU := Lib.hid ((HU1.out.of0 (S := [rb, hbk])).then (hU2.mono (fun i hi => .inl (by simp at hi; simp [hi]))))
      clear hrd e4 c5 hc hR2 hU2
      go_wp2
      go_ret2
      exact ⟨rfl, HUU.out⟩
    · have d5 : decide ((b0.n : Int) < c) = false := decide_eq_false c5
      have s1 := (HSB.out.upd hU2 (by simp; exact HSB.out.ne HR1.out (by decide))).cell (j := 1) rfl
      obtain ⟨N, rfl⟩ : ∃ N : Nat, c = (N : Int) := ⟨c.toNat, by omega⟩
      have hN4 : N ≤ 4096 := by omega
      have d5n : decide (b0.n < N) = false := decide_eq_false (by omega)
      have HRS := Lib.hid (show RB = rdPts (nums S) N (p + 4) (-1) b0 by rw [HRB.out, hrd, if_neg c5]; rfl)
      have HR2 := Lib.hid hR2
      have HU2 := Lib.hid (hU2.mono (T := [rb, hbk]) (fun i hi => .inl (by simp at hi; simp [hi])))
      have HH2 := Lib.hid (own_upd HH1.out hU2 (fun g hg hm => by
        simp [Value.ownBlock] at hg hm
        obtain ⟨cs, hh⟩ := own_HB HH1.out
        exact hh.ne HR1.out (by decide) (hg.trans hm)))
      have HNI := Lib.hid (show w.heap.size ∉ [rb, hbk] by
        obtain ⟨cs, hh⟩ := own_HB HH1.out
        simp
        exact ⟨HSB.out.ne HR1.out (by decide), HSB.out.ne hh (by decide)⟩)
      clear hrd HRB c5 e4 hc hU2 hR2 hcb
      go_wp2_with fail
      clear s1 d5 d5n hwn
      go_loopw [12] (fun iv wr => ∃ (i p' : Nat) (qs : List Pt) (v : Value), i ≤ N ∧ iv = .int .u64 (i : Int) ∧ qs.length = i ∧ QOk b0 qs ∧ RB = rdPts (nums S) (N - i) p' (lastT qs) (putAll qs b0) ∧ p' ≤ S.size ∧ HB wr rb TRR [.string S, .int .i64 p'] ∧ wr.ownsRow N0 TP 1 (.slice (some ⟨hbk, 0, none⟩) n cap) n (hs.set k v) ∧ wr.ownsRow W1.heap.size 49 3 v qs.length (qs.flatMap ptR) ∧ Upd [rb, hbk] W1 wr) (fun iv _ => N - (intOf iv).toNat)
      case atStart => exact ⟨0, p + 4, [], .slice none 0 0, Nat.zero_le _, rfl, rfl, ⟨.nil, .nil, fun q hq => by cases hq⟩, HRS.out, c4, HR2.out, by
        have e : hs.set k (.slice none 0 0) = hs := by
          obtain ⟨h1, h2⟩ := List.getElem?_eq_some_iff.1 HNK.out
          rw [← h2, List.set_getElem_self]
        rw [e]; exact HH2.out, ⟨rfl, .inl ⟨rfl, rfl⟩⟩, HU2.out⟩
      case round =>
        obtain ⟨i, p', qs, v, hi, rfl, hql, hqo, hrb, hp', hR, hH, hV, hU⟩ := hrel
        have HQL := Lib.hid hql
        have HQO := Lib.hid hqo
        have HRB := Lib.hid hrb
        have HRR := Lib.hid hR
        have HHH := Lib.hid hH
        have HVV := Lib.hid hV
        have HUU := Lib.hid hU
        clear hql hqo hrb hR hH hV hU HRS HR2 HH2 HU2
        by_cases hlt : i < N
        · have hiI : (i : Int) < (N : Int) := by omega
          have hms : N - (i + 1) < N - i := by omega
          have hNi : N - i = (N - (i + 1)) + 1 := by omega
          have y1 := HRR.out.cell (j := 1) rfl
          have HRN := Lib.hid (rnumber_calls rb S p' 8 wr HRR.out (by omega) hp' hl)
          go_wp2_with fail
          refine HRN.out.mono ?_
          clear y1
          rintro e wa ⟨rfl, hRa, hUa⟩
          have HRa := Lib.hid (show HB wa rb TRR [.string S, .int .i64 (nx8 (nums S) p' : Nat)] from hRa)
          have HUa := Lib.hid hUa
          have h1le := nx8_le (l := nums S) (p := p') (by rw [HNL.out]; exact hp')
          have HRN2 := Lib.hid (rnumber_calls rb S (nx8 (nums S) p') 8 wa HRa.out (by omega) (by rw [← HNL.out]; exact h1le) hl)
          obtain ⟨f1, hf1⟩ : ∃ f1, f1 = (numAt (nums S) p' 8).isSome := ⟨_, rfl⟩
          obtain ⟨n1, hn1⟩ : ∃ n1, n1 = (numAt (nums S) p' 8).getD 0 := ⟨_, rfl⟩
          rw [← hf1, ← hn1]
          have HE1 := Lib.hid (And.intro hf1 hn1)
          clear hRa hUa HRN hf1 hn1
          go_wp2_with fail
          refine HRN2.out.mono ?_
          rintro e wb ⟨rfl, hRb, hUb⟩
          have HRb := Lib.hid (show HB wb rb TRR [.string S, .int .i64 (nx8 (nums S) (nx8 (nums S) p') : Nat)] from hRb)
          have HUb := Lib.hid (HUa.out.then hUb)
          have h2le := nx8_le (l := nums S) (p := nx8 (nums S) p') h1le
          have HRN3 := Lib.hid (rnumber_calls rb S (nx8 (nums S) (nx8 (nums S) p')) 8 wb HRb.out (by omega) (by rw [← HNL.out]; exact h2le) hl)
          obtain ⟨f2, hf2⟩ : ∃ f2, f2 = (numAt (nums S) (nx8 (nums S) p') 8).isSome := ⟨_, rfl⟩
          obtain ⟨n2, hn2⟩ : ∃ n2, n2 = (numAt (nums S) (nx8 (nums S) p') 8).getD 0 := ⟨_, rfl⟩
          rw [← hf2, ← hn2]
          have HE2 := Lib.hid (And.intro hf2 hn2)
          clear hRb hUb HRN2 hf2 hn2 HUa HRa
          go_wp2_with fail
          refine HRN3.out.mono ?_
          rintro e wc ⟨rfl, hRc, hUc⟩
          have HRc := Lib.hid (show HB wc rb TRR [.string S, .int .i64 (nx8 (nums S) (nx8 (nums S) (nx8 (nums S) p')) : Nat)] from hRc)
          have HUc := Lib.hid (HUb.out.then hUc)
          obtain ⟨f3, hf3⟩ : ∃ f3, f3 = (numAt (nums S) (nx8 (nums S) (nx8 (nums S) p')) 8).isSome := ⟨_, rfl⟩
          obtain ⟨n3, hn3⟩ : ∃ n3, n3 = (numAt (nums S) (nx8 (nums S) (nx8 (nums S) p')) 8).getD 0 := ⟨_, rfl⟩
          rw [← hf3, ← hn3]
          have HE3 := Lib.hid (And.intro hf3 hn3)
          clear hRc hUc HRN3 hf3 hn3 HUb HRb h1le h2le
          have HUc' := Lib.hid (HUU.out.then (HUc.out.mono (T := [rb, hbk]) (fun i hi => .inl (by simp at hi; simp [hi]))))
          by_cases c24 : p' + 24 ≤ S.size
          · have e1 := numAt_ok (l := nums S) (p := p') (k := 8) (by rw [HNL.out]; omega)
            have x1 : nx8 (nums S) p' = p' + 8 := by unfold nx8; rw [e1]; rfl
            have e2 := numAt_ok (l := nums S) (p := p' + 8) (k := 8) (by rw [HNL.out]; omega)
            have x2 : nx8 (nums S) (p' + 8) = p' + 16 := by unfold nx8; rw [e2]; rfl
            have e3 := numAt_ok (l := nums S) (p := p' + 16) (k := 8) (by rw [HNL.out]; omega)
            have x3 : nx8 (nums S) (p' + 16) = p' + 24 := by unfold nx8; rw [e3]; rfl
            have h1 := HE1.out
            have h2 := HE2.out
            have h3 := HE3.out
            have hrc := HRc.out
            rw [x1, x2, x3] at hrc
            rw [x1] at h2
            rw [x1, x2] at h3
            rw [e1] at h1
            rw [e2] at h2
            rw [e3] at h3
            simp only [Option.isSome_some, Option.getD_some] at h1 h2 h3
            obtain ⟨rfl, h1⟩ := h1
            obtain ⟨rfl, h2⟩ := h2
            obtain ⟨rfl, h3⟩ := h3
            have u1 := num8 HBY.out p'
            have u2 := num8 HBY.out (p' + 8)
            have u3 := num8 HBY.out (p' + 16)
            rw [← h1] at u1
            rw [← h2] at u2
            rw [← h3] at u3
            have HRP := Lib.hid (show rdPnt (nums S) p' = ⟨sI n1, sI n2, n3⟩ by unfold rdPnt; rw [h1, h2, h3])
            have HRc := Lib.hid hrc
            have hI2 : I64 (sI n2) := by unfold sI; unfold U64 at u2; unfold I64; split <;> omega
            have hWH := wideHL hI2 u3
            obtain ⟨V, hV⟩ : ∃ V, V = sI n2 * 18446744073709551616 + n3 := ⟨_, rfl⟩
            rw [← hV] at hWH
            have HWHH := Lib.hid hWH
            have HFT := Lib.hid (show ∀ W, Calls Try.prog 18 #[.agg #[.int .i64 (sI n2), .int .u64 n3], .int .i64 b0.step] W fun e w' => e = .returned (.bool (fitV V b0.step)) ∧ Upd [] W w' from by
              have h := fun W => rfits_calls V b0.step hWH.2.2 (by unfold I64; omega) W
              unfold wide at h
              rw [hWH.1, hWH.2.1] at h
              exact h)
            have HV := Lib.hid (show (rdPnt (nums S) p').v = V by rw [HRP.out, hV]; rfl)
            have HT := Lib.hid (show (rdPnt (nums S) p').t = sI n1 by rw [HRP.out])
            have HW2 := Lib.hid (show IntKind.i64.wrap n2 = sI n2 from sI_wrap u2)
            have hsec := sI_sec u1
            have hstp : (putAll qs b0).step = b0.step := (putAll_step qs b0).1
            have HUX := Lib.hid (fun (U : World) (hU : Upd [] wc U) => (HU1.out.of0 (S := [rb, hbk])).then (HUc'.out.then0 hU))
            clear e1 e2 e3 x1 x2 x3 h1 h2 h3 hrc HE1 HE2 HE3 hV hWH
            have HAL0 := Lib.hid (HUX.out _ ((Upd.refl [] wc).alloc (.cells #[.int .i64 (sI n2), .int .u64 n3] 47)))
            by_cases cA : n1 ≤ 1099511627775
            · have dA : decide (1099511627775 < n1) = false := decide_eq_false (by omega)
              have hu0 : 0 ≤ n1 := u1.1
              have hsI : sI n1 = n1 := by unfold sI; rw [if_pos (by omega)]
              have HW1 := Lib.hid (show IntKind.i64.wrap n1 = n1 by rw [sI_wrap u1, hsI])
              rw [hsI] at hsec HT
              have hst0 : (b0.step == 0) = false := by simp; omega
              have hmod : n1.tmod b0.step = n1 % b0.step := tmod_nn hu0
              have HS1 := Lib.hid (HSB.out.upd HUc'.out HNI.out)
              have HAL := Lib.hid (HUX.out _ ((Upd.refl [] wc).alloc (.cells #[.int .i64 (sI n2), .int .u64 n3] 47)))
              have HSA := Lib.hid ((HSB.out.upd HUc'.out HNI.out).alloc (.cells #[.int .i64 (sI n2), .int .u64 n3] 47))
              have s0 := HSA.out.cell (j := 0) rfl
              have s1 := HSA.out.cell (j := 1) rfl
              by_cases cB : n1 % b0.step = 0
              · have dB : (n1 % b0.step != 0) = false := by simp [cB]
                have HCB := Lib.hid cB
                by_cases cC : fitV V b0.step = true
                · rw [cC] at HFT
                  have HPQ := Lib.hid (show pointP (putAll qs b0) (nums S) p' (lastT qs) = if ∀ q ∈ qs, q.t < n1 ∧ b0.place q.t ≠ b0.place n1 then some ⟨n1, V⟩ else none by
                    have hq := HQO.out
                    rw [HB0.out] at hq
                    have hs1 : s.1 = b0.step := by rw [HSP.out]
                    have h := pointP_qs HOK.out hq (nums S) p' (by rw [HNL.out]; exact c24) (by rw [HT.out, hsec]; exact decide_eq_true cA) (by rw [HT.out, hs1]; exact cB) (by rw [HV.out, hs1]; exact cC)
                    rw [HT.out, HV.out, ← HB0.out] at h
                    exact h)
                  have HFC := Lib.hid (And.intro (And.intro hu0 cA) (And.intro cB (by have := cC; unfold fitV at this; exact of_decide_eq_true this : (V.natAbs : Int) ≤ 1208925819614629174706176 * b0.step)))
                  have HHc := Lib.hid (own_upd HHH.out HUc.out (fun g hg hm => by
                    simp [Value.ownBlock] at hg hm
                    obtain ⟨cs, hh⟩ := own_HB HHH.out
                    exact hh.ne HRR.out (by decide) (hg.trans hm)))
                  have HVc := Lib.hid (own_upd HVV.out HUc.out (fun g hg hm => by
                    simp at hm
                    exact own_ne HVV.out HRR.out (by decide) g hg hm))
                  clear cC hsec cB hstp
                  have hw2 := HW2.out
                  have hw1 := HW1.out
                  go_wp2_with fail
                  clear hw1 hw2
                  refine (HFT.out _).mono ?_
                  rintro e wd ⟨rfl, hUd⟩
                  have hcd := ((Upd.refl [] wc).alloc (.cells #[.int .i64 (sI n2), .int .u64 n3] 47)).then hUd
                  have HUd := Lib.hid hcd
                  have HUD := Lib.hid (HUc'.out.then0 hcd)
                  have HHd := Lib.hid (own_upd HHc.out hcd (by simp))
                  have HVd := Lib.hid (own_upd HVc.out hcd (by simp))
                  have HFd := Lib.hid (HF1.out.upd HUD.out (by simp; exact HNE.out))
                  have HSd := Lib.hid (HS1.out.upd hcd (by simp))
                  have HRd := Lib.hid (HRc.out.upd hcd (by simp))
                  have HWd := Lib.hid (((HB.new wc 47 [.int .i64 (sI n2), .int .u64 n3])).upd hUd (by simp))
                  obtain ⟨B, cB, rfl, hv1, hv2, _⟩ := own_shape HVd.out
                  have hvl := Nat.le_trans hv1 (Nat.le_trans hv2 maxLen_le)
                  have hzk : (hs.set k (.slice B qs.length cB))[k]? = some (.slice B qs.length cB) := List.getElem?_set_self HKL.out.1
                  obtain ⟨g2, hg2, zk, _⟩ := own_cell HHd.out k _ hzk
                  injection hg2 with hg2
                  injection hg2 with hg2
                  subst hg2
                  have HZK := Lib.hid zk
                  have HWSZ := Lib.hid (show wc.heap.size < wd.heap.size from HWd.out.lt)
                  clear hUd hcd s0 s1 HHc HVc HS1 HSA HRc hzk zk hv1 hv2 HUc HRR HHH HVV
                  go_wp2_with fail
                  go_loopw [20] (fun jv wq => ∃ j : Nat, j ≤ qs.length ∧ jv = .int .i64 (j : Int) ∧ (∀ q ∈ qs.take j, q.t < n1 ∧ b0.place q.t ≠ b0.place n1) ∧ Upd [] wd wq) (fun jv _ => qs.length - (intOf jv).toNat)
                  case atStart => exact ⟨0, Nat.zero_le _, rfl, fun q hq => by simp at hq, Upd.refl _ _⟩
                  case round =>
                    obtain ⟨j, hj, rfl, hno, hUq⟩ := hrel
                    generalize wr = wq at *
                    have HNO := Lib.hid hno
                    have HUq := Lib.hid hUq
                    have z3 := (HFd.out.upd hUq (by simp)).cell (j := 3) rfl
                    have zk := hUq.cell HZK.out (by simp)
                    clear hno hUq
                    by_cases hjl : j < qs.length
                    · obtain ⟨q, hq⟩ : ∃ q, qs[j]? = some q := ⟨_, List.getElem?_eq_getElem hjl⟩
                      obtain ⟨gq, oq, rfl, _, hcq⟩ := (own_row ptR_len (by decide) HVd.out).2.at_ hq
                      have hjI : (j : Int) < (qs.length : Int) := by omega
                      have hqe := HQO.out.each q (List.mem_of_getElem? hq)
                      have q0 : wq.cell? ⟨gq, oq + j * 3, none⟩ = some (.int .i64 q.t) := HUq.out.cell (by simpa using hcq 0 _ rfl) (by simp)
                      have q1 : wq.cell? ⟨gq, oq + j * 3 + 1, none⟩ = some (.int .i64 (wh q.v)) := HUq.out.cell (hcq 1 _ rfl) (by simp)
                      have q2 : wq.cell? ⟨gq, oq + j * 3 + 2, none⟩ = some (.int .u64 (wl q.v)) := HUq.out.cell (hcq 2 _ rfl) (by simp)
                      have HX := Lib.hid (HB.new wq 49 (ptR q))
                      have hUX := (Upd.refl [] wq).alloc (.cells (ptR q).toArray 49)
                      have HUX2 := Lib.hid (HUq.out.then hUX)
                      have HTK := Lib.hid (show qs.take (j + 1) = qs.take j ++ [q] by rw [List.take_add_one, hq]; rfl)
                      have HQM := Lib.hid (List.mem_of_getElem? hq)
                      have HPL := Lib.hid (show ∀ t, 0 ≤ t ∧ t ≤ 1099511627775 → ∀ W, Calls Try.prog 77 #[.agg #[.int .i64 b0.step, .int .i64 b0.n], .int .i64 t] W fun e w' => e = .returned (.int .i64 (b0.place t)) ∧ Upd [] W w' from fun t ht W => rplace_calls b0 t hbb.1 ⟨hbb.2.2.1, hbb.2.2.2.1⟩ ht W)
                      have hqt : 0 ≤ q.t ∧ q.t ≤ 1099511627775 := ⟨hqe.1, hqe.2.1⟩
                      have hnt : 0 ≤ n1 ∧ n1 ≤ 1099511627775 := ⟨hu0, cA⟩
                      have hmsj : qs.length - (j + 1) < qs.length - j := by omega
                      clear hq hcq hqe hUX
                      go_wp2_with fail
                      have HDUM := Lib.hid True.intro
                      obtain ⟨W2, hW2⟩ : ∃ W2, W2 = wq.alloc (.cells #[.int .i64 q.t, .int .i64 (wh q.v), .int .u64 (wl q.v)] 49) := ⟨_, rfl⟩
                      have HX := Lib.hid (show HB W2 wq.heap.size 49 (ptR q) by rw [hW2]; exact HX.out)
                      have HUX2 := Lib.hid (show Upd [] wd W2 by rw [hW2]; exact HUX2.out)
                      rw [← hW2]
                      clear hW2 q0 q1 q2 z3 zk
                      have x0 := fun d os => rg_cell (HX.out.cell (j := 0) rfl) d os
                      have sa := fun d os => rg_cell ((HSd.out.upd HUX2.out (by simp)).cell (j := 0) rfl) d os
                      have sb := fun d os => rg_cell ((HSd.out.upd HUX2.out (by simp)).cell (j := 1) rfl) d os
                      by_cases cT : n1 ≤ q.t
                      · have dT : decide (n1 ≤ q.t) = true := decide_eq_true cT
                        have hpn : pointP (putAll qs b0) (nums S) p' (lastT qs) = none := by
                          rw [HPQ.out, if_neg]
                          intro h
                          have := (h q HQM.out).1
                          omega
                        obtain rfl : RB = .error p' := by rw [HRB.out, hNi, rdPts_succ, hpn]
                        clear HRB hpn
                        clear cT
                        have hw1 := HW1.out
                        refine wp_region_quiet_below (by kernel_rfl) (by kernel_rfl) ?_
                        repeat (go_big_quiet_step (fail))
                        refine wpQuiet_nil ?_
                        rintro _ ⟨⟨dq, osq⟩, rfl⟩
                        clear x0 sa sb hw1
                        go_wp2
                        go_ret2
                        exact ⟨rfl, HUX.out _ (HUd.out.then (HUX2.out.then (rg_upd _ _ _)))⟩
                      · have dT : decide (n1 ≤ q.t) = false := decide_eq_false cT
                        by_cases cP : b0.place q.t = b0.place n1
                        · have hpn : pointP (putAll qs b0) (nums S) p' (lastT qs) = none := by
                            rw [HPQ.out, if_neg]
                            intro h
                            exact (h q HQM.out).2 cP
                          obtain rfl : RB = .error p' := by rw [HRB.out, hNi, rdPts_succ, hpn]
                          clear HRB hpn
                          have dP : (((b0.place q.t : Nat) : Int) == ((b0.place n1 : Nat) : Int)) = true := by rw [cP]; exact beq_self_eq_true _
                          clear cT cP
                          have hw1 := HW1.out
                          refine wp_region_quiet_below (by kernel_rfl) (by kernel_rfl) ?_
                          repeat (go_big_quiet_step ((go_at_call 77; exact rg_of (HPL.out _ (by assumption) _))))
                          refine wpQuiet_nil ?_
                          rintro _ ⟨⟨dq, osq⟩, rfl⟩
                          clear x0 sa sb hw1
                          go_wp2
                          go_ret2
                          exact ⟨rfl, HUX.out _ (HUd.out.then (HUX2.out.then (rg_upd _ _ _)))⟩
                        · have dP : (((b0.place q.t : Nat) : Int) == ((b0.place n1 : Nat) : Int)) = false := by simp; omega
                          have HNO2 := Lib.hid (show ∀ q ∈ qs.take (j + 1), q.t < n1 ∧ b0.place q.t ≠ b0.place n1 from by
                            rw [HTK.out]
                            intro y hy
                            rw [List.mem_append] at hy
                            rcases hy with hy | hy
                            · exact HNO.out y hy
                            · simp at hy; subst hy; exact ⟨by omega, cP⟩)
                          clear cT cP
                          have hw1 := HW1.out
                          refine wp_region_quiet_below (by kernel_rfl) (by kernel_rfl) ?_
                          repeat (go_big_quiet_step ((go_at_call 77; exact rg_of (HPL.out _ (by assumption) _))))
                          refine wpQuiet_nil ?_
                          rintro _ ⟨⟨dq, osq⟩, rfl⟩
                          clear x0 sa sb dP hw1
                          have HUZ := Lib.hid (HUX2.out.then (rg_upd W2 dq osq))
                          go_wp2
                          exact ⟨⟨j + 1, hjl, rfl, HNO2.out, HUZ.out⟩, by simp [intOf]; omega⟩
                    · obtain rfl : j = qs.length := by omega
                      have HPS := Lib.hid (show RB = rdPts (nums S) (N - (i + 1)) (p' + 24) n1 ((putAll qs b0).put n1 V) by
                        rw [HRB.out, hNi, rdPts_succ, HPQ.out, if_pos (by have := HNO.out; rwa [List.take_length] at this)])
                      have HHq := Lib.hid (own_upd HHd.out HUq.out (by simp))
                      have HVq := Lib.hid (own_upd HVd.out HUq.out (by simp))
                      have hWq := HWd.out.upd HUq.out (by simp)
                      obtain ⟨Sx, hSx⟩ : ∃ Sx, Sx = (Value.slice B qs.length cB).ownBlock.toList := ⟨_, rfl⟩
                      have hFq := HFd.out.upd HUq.out (by simp)
                      have n1' : fbx ∉ Sx := by rw [hSx]; exact own_notin' HVq.out hFq (by decide)
                      have n2' : hbk ∉ Sx := by
                        obtain ⟨cs, hh⟩ := own_HB HHq.out
                        rw [hSx]
                        exact own_notin' HVq.out hh (by decide)
                      have n3' : wc.heap.size ∉ Sx := by rw [hSx]; exact own_notin' HVq.out hWq (by decide)
                      have z3c := fun p : Wd Sx wq => p.h.cell z3 n1'
                      have zkc := fun p : Wd Sx wq => p.h.cell zk n2'
                      have w0c := fun p : Wd Sx wq => p.h.cell (hWq.cell (j := 0) rfl) n3'
                      have w1c := fun p : Wd Sx wq => p.h.cell (hWq.cell (j := 1) rfl) n3'
                      have HSX := Lib.hid hSx
                      have HN2 := Lib.hid n2'
                      have hw1 := HW1.out
                      have hql4 : qs.length ≤ 4096 := by have := HQL.out; omega
                      clear hWq hFq hSx n1' n3' n2'
                      go_wp2_with fail
                      clear z3 zk
                      refine mix_start (n := 20) 18 (fun w' => ∃ p : Wd Sx wq, w' = p.v) (by kernel_rfl) (by kernel_rfl) ?_
                      refine mix_quiet [true, true, true, true, true, true, true, true, true, true, true, true, true, true, true, true] 4 rfl (by kernel_rfl) (by kernel_rfl) (by kernel_rfl) (by kernel_rfl) ⟨⟨_, (Upd.refl Sx wq).drew⟩, rfl⟩ ?_
                      simp only [maskL]
                      repeat (go_big_quiet_step (fail))
                      refine wpQuiet_nil ?_
                      clear z3c zkc w0c w1c hw1
                      refine mix_one 16 (by kernel_rfl) (by kernel_rfl) rfl ?_
                      intro K QF hK
                      go_wp2_with fail
                      refine hK _ _ ⟨⟨_, ((Upd.refl Sx wq).alloc _).drew⟩, rfl⟩ ?_
                      clear hK K QF
                      have hnb : HB ((wq.alloc (.cells #[.int .i64 n1, .int .i64 (sI n2), .int .u64 n3] 49)).drew) wq.heap.size 49 (ptR ⟨n1, V⟩) := by
                        have h := (HB.new wq 49 [.int .i64 n1, .int .i64 (sI n2), .int .u64 n3]).drew
                        unfold ptR
                        dsimp only
                        rw [HWHH.out.1, HWHH.out.2.1]
                        exact h
                      have hua := ((Upd.refl [] wq).alloc (.cells #[.int .i64 n1, .int .i64 (sI n2), .int .u64 n3] 49)).drew
                      have HNB := Lib.hid hnb
                      have HUA := Lib.hid hua
                      have hwsz : W1.heap.size ≤ wq.heap.size + 1 := by have := HUD.out.size; have := HUq.out.size; omega
                      clear hnb hua
                      refine mix_one 17 (by kernel_rfl) (by kernel_rfl) rfl ?_
                      intro K QF hK
                      refine wp_append1 W1.heap.size 41 49 _ 3 24 (.slice B qs.length cB) qs.length (qs.flatMap ptR) (ptR ⟨n1, V⟩) _ rfl rfl (by kernel_rfl) infoP rfl (by decide) (by decide) rfl rfl (ptR_len _) (ptR_one _) (own_upd HVq.out HUA.out (by simp)) HNB.out (by simp; omega) (by omega) ?_
                      intro v1 w5 hown hU5 hat
                      have hU5 := HSX.out ▸ hU5
                      obtain ⟨B1, cB1, rfl, _, _, _⟩ := own_shape hown
                      have HHw := Lib.hid (own_upd HHq.out (((Upd.refl Sx wq).alloc (.cells #[.int .i64 n1, .int .i64 (sI n2), .int .u64 n3] 49)).drew.then hU5) (fun g hg hm => by simp [Value.ownBlock] at hg; subst hg; exact HN2.out hm))
                      have HU5 := Lib.hid ((((Upd.refl Sx wq).alloc (.cells #[.int .i64 n1, .int .i64 (sI n2), .int .u64 n3] 49)).drew.then hU5))
                      have HOWN := Lib.hid hown
                      clear hown hat hU5
                      go_wp2_with fail
                      refine hK _ _ ⟨⟨_, HU5.out⟩, rfl⟩ ?_
                      clear hK K QF
                      obtain ⟨_, hA9, zk9, _⟩ := own_cell HHw.out k _ (List.getElem?_set_self (a := .slice B qs.length cB) HKL.out.1)
                      injection hA9 with hA9
                      injection hA9 with hA9
                      subst hA9
                      have fz9 := own_free HHw.out k
                      have hst := (Upd.refl [hbk] w5).setCell (p := ⟨hbk, k, none⟩) (.inl (by simp)) (.slice B1 (qs.length + 1) cB1)
                      have HHz := Lib.hid (show (w5.setCell ⟨hbk, k, none⟩ (.slice B1 (qs.length + 1) cB1)).ownsRow N0 TP 1 (.slice (some ⟨hbk, 0, none⟩) n cap) n (hs.set k (.slice B1 (qs.length + 1) cB1)) by
                        have h := own_set HHw.out (j := k) (by rw [List.length_set]; exact HKL.out.1) (.slice B1 (qs.length + 1) cB1)
                        rwa [List.set_set] at h)
                      have HVz := Lib.hid (own_upd HOWN.out hst (fun g hg hm => by
                        obtain ⟨cs, hh⟩ := own_HB HHw.out
                        simp at hm
                        exact own_ne HOWN.out hh (by decide) g hg hm))
                      have hrs : rb ∉ Sx := by rw [HSX.out]; exact own_notin' HVq.out (HRd.out.upd HUq.out (by simp)) (by decide)
                      have HRz := Lib.hid (((HRd.out.upd HUq.out (by simp)).upd HU5.out hrs).upd hst (by
                        obtain ⟨cs, hh⟩ := own_HB HHw.out
                        simp
                        exact ((HRd.out.upd HUq.out (by simp)).upd HU5.out hrs).ne hh (by decide)))
                      have HUz := Lib.hid (((HUD.out.then0 HUq.out).trans HU5.out (fun _ h => h) (fun y hy => .inr (by rw [HSX.out] at hy; exact own_base HVq.out y (by simpa using hy)))).trans hst (fun _ h => h) (fun y hy => .inl (by simp at hy; simp [hy])))
                      have hnoall : ∀ q ∈ qs, q.t < n1 ∧ b0.place q.t ≠ b0.place n1 := by have := HNO.out; rwa [List.take_length] at this
                      have HQS := Lib.hid (HQO.out.snoc (q := ⟨n1, V⟩) ⟨hu0, cA, HFC.out.2.1, HFC.out.2.2⟩ (fun y hy => (hnoall y hy).1) (fun y hy => (hnoall y hy).2))
                      have HRBz := Lib.hid (show RB = rdPts (nums S) (N - (i + 1)) (p' + 24) (lastT (qs ++ [⟨n1, V⟩])) (putAll (qs ++ [⟨n1, V⟩]) b0) by
                        rw [HPS.out, putAll_snoc]
                        unfold lastT
                        rw [List.getLast?_concat]
                        rfl)
                      have HVz := Lib.hid (show (w5.setCell ⟨hbk, k, none⟩ (.slice B1 (qs.length + 1) cB1)).ownsRow W1.heap.size 49 3 (.slice B1 (qs.length + 1) cB1) (qs ++ [(⟨n1, V⟩ : Pt)]).length ((qs ++ [(⟨n1, V⟩ : Pt)]).flatMap ptR) by
                        rw [List.flatMap_append, List.flatMap_singleton, List.length_append]
                        exact HVz.out)
                      have hwi : IntKind.u64.wrap ((i : Int) + 1) = (i : Int) + 1 := by simp [IntKind.wrap, IntKind.bits, IntKind.signed]; omega
                      clear hst hrs hnoall
                      refine mix_tail (by kernel_rfl) (by kernel_rfl) ?_
                      simp only [List.drop_succ_cons, List.drop_zero]
                      go_wp2
                      exact ⟨⟨i + 1, p' + 24, qs ++ [⟨n1, V⟩], .slice B1 (qs.length + 1) cB1, hlt, rfl, by simp [HQL.out], HQS.out, HRBz.out, c24, HRz.out, HHz.out, HVz.out, HUz.out⟩, by simp [intOf]; omega⟩
                · have dC : fitV V b0.step = false := by simpa using cC
                  have hpn : pointP (putAll qs b0) (nums S) p' (lastT qs) = none := by
                    unfold pointP
                    rw [hstp, HV.out]
                    rw [if_neg (fun h => cC h.2.2.2.2.2)]
                  obtain rfl : RB = .error p' := by rw [HRB.out, hNi, rdPts_succ, hpn]
                  clear HRB hpn
                  rw [dC] at HFT
                  clear cC dC hsec cB hstp
                  have hw2 := HW2.out
                  have hw1 := HW1.out
                  go_wp2_with fail
                  clear hw1 hw2
                  refine (HFT.out _).mono ?_
                  rintro e wd ⟨rfl, hUd⟩
                  have HUd := Lib.hid (HUX.out _ (((Upd.refl [] wc).alloc _).then hUd))
                  clear hUd
                  go_wp2
                  go_ret2
                  exact ⟨rfl, HUd.out⟩
              · have dB : (n1 % b0.step != 0) = true := by simpa using cB
                have hpn : pointP (putAll qs b0) (nums S) p' (lastT qs) = none := by
                  unfold pointP
                  rw [hstp, HT.out]
                  rw [if_neg (fun h => cB h.2.2.1)]
                obtain rfl : RB = .error p' := by rw [HRB.out, hNi, rdPts_succ, hpn]
                clear HRB hpn
                clear cB hsec hstp
                have hw2 := HW2.out
                have hw1 := HW1.out
                go_wp2_with fail
                go_ret2
                exact ⟨rfl, HAL.out⟩
            · have dA : decide (1099511627775 < n1) = true := decide_eq_true (by omega)
              have hpn : pointP (putAll qs b0) (nums S) p' (lastT qs) = none := by
                unfold pointP
                rw [HT.out, hsec]
                rw [if_neg (fun h => cA (of_decide_eq_true h.2.1))]
              obtain rfl : RB = .error p' := by rw [HRB.out, hNi, rdPts_succ, hpn]
              clear HRB hpn
              clear cA hsec hstp
              have hw2 := HW2.out
              go_wp2_with fail
              go_ret2
              exact ⟨rfl, HAL0.out⟩
          · have hpn : pointP (putAll qs b0) (nums S) p' (lastT qs) = none := by
              unfold pointP
              rw [if_neg]
              rintro ⟨h, _⟩
              rw [HNL.out] at h
              exact c24 h
            have HRE := Lib.hid (show RB = .error p' by rw [HRB.out, hNi, rdPts_succ, hpn])
            obtain rfl := HRE.out
            obtain rfl : f3 = false := by rw [HE3.out.1, nx3, HNL.out]; exact decide_eq_false c24
            have HUX := Lib.hid (fun (U : World) (hU : Upd [] wc U) => (HU1.out.of0 (S := [rb, hbk])).then (HUc'.out.then0 hU))
            clear HRB HRE hpn HE1 HE2 HE3 c24
            cases f1 <;> cases f2
            all_goals
              go_wp2_with fail
              go_ret2
              exact ⟨rfl, HUX.out _ ((Upd.refl _ _).alloc _)⟩
        · obtain rfl : i = N := by omega
          have HRE := Lib.hid (show RB = .ok (putAll qs b0, p') by rw [HRB.out, Nat.sub_self]; rfl)
          obtain rfl := HRE.out
          have HPT := Lib.hid (show (putAll qs b0).pts = qs by rw [HB0.out]; rw [HB0.out] at HQO; exact pts_putAll HOK.out HQO.out)
          clear HRB HRE
          go_wp2
          go_ret2
          refine ⟨rfl, v, HRR.out, HHH.out, ?_, hp', (HU1.out.of0 (S := [rb, hbk])).then HUU.out⟩
          rw [HPT.out]
          exact own_base_mono HVV.out (by rw [HSZ.out]; omega)
  · have e4 : numAt (nums S) p 4 = none := by unfold numAt; rw [hnl, if_neg c4]
    obtain rfl : RB = .error p := by rw [HRB.out]; unfold rdBand; rw [e4]
    clear HRB
    rw [e4]
    simp only [Option.getD_none, Option.isSome_none, Bool.false_eq_true, if_false]
    rintro e w2 ⟨rfl, hR2, hU2⟩
    have HUU := Lib.hid ((HU1.out.of0 (S := [rb, hbk])).then (hU2.mono (fun i hi => .inl (by simp at hi; simp [hi]))))
    clear e4 hR2 hU2
    go_wp2
    go_ret2
    exact ⟨rfl, HUU.out⟩
end Go.Proofs.Ytdjpcinibgbglaa
