/- agg.Apply. -/
import Derived.Test.YthbjpoiolmlpmaaGreatDoorAply
set_option linter.unusedVariables false
set_option linter.unusedSimpArgs false
namespace Go.Proofs.YthbjpoiolmlpmaaGreatDoor
open Go.RowKit
abbrev Met : Type := Int × ByteArray
structure AgP where
  ws : List (Int × List (Met × TK))
  gs : ByteArray → Option Int
  bound : Int
def WR.pl (r : WR) : Int × List (Met × TK) := (r.id, r.ts.map fun t => (t.key, t.tk))
def gl (x : ByteArray) (gs : List (ByteArray × Int)) : Option Int := (gs.find? fun p => p.1 = x).map (·.2)
def AgL.pl (A : AgL) : AgP := ⟨A.ws.map WR.pl, fun x => gl x A.gs, A.bound⟩
def updT (e : Ev) : List (Met × TK) → List (Met × TK)
  | [] => [((e.kind, e.name), (freshK e.kind).take e)]
  | q :: l => if q.1 = (e.kind, e.name) then (q.1, q.2.take e) :: l else q :: updT e l
def updW (id : Int) (e : Ev) : List (Int × List (Met × TK)) → List (Int × List (Met × TK))
  | [] => [(id, updT e [])]
  | q :: l => if q.1 = id then (q.1, updT e q.2) :: l else q :: updW id e l
def acode (bound id : Int) (e : Ev) : Int := if chk e = 0 then (if id ≤ bound then 81 else 0) else chk e
def AgP.apply (A : AgP) (id : Int) (e : Ev) : AgP := if acode A.bound id e = 0 then { A with ws := updW id e A.ws } else A
theorem updW_at (id : Int) (e : Ev) (l1 l2 : List (Int × List (Met × TK))) (ts : List (Met × TK)) (h : id ∉ l1.map (·.1)) : updW id e (l1 ++ (id, ts) :: l2) = l1 ++ (id, updT e ts) :: l2 := by
  induction l1 with
  | nil => simp [updW]
  | cons q l ih =>
    simp only [List.map_cons, List.mem_cons, not_or] at h
    simp only [List.cons_append, updW]
    rw [if_neg (fun e => h.1 e.symm), ih h.2]
theorem updW_new (id : Int) (e : Ev) (l : List (Int × List (Met × TK))) (h : id ∉ l.map (·.1)) : updW id e l = l ++ [(id, updT e [])] := by
  induction l with
  | nil => rfl
  | cons q l ih =>
    simp only [List.map_cons, List.mem_cons, not_or] at h
    simp only [List.cons_append, updW]
    rw [if_neg (fun e => h.1 e.symm), ih h.2]
theorem updT_at (e : Ev) (l1 l2 : List (Met × TK)) (k : TK) (h : (e.kind, e.name) ∉ l1.map (·.1)) : updT e (l1 ++ ((e.kind, e.name), k) :: l2) = l1 ++ ((e.kind, e.name), k.take e) :: l2 := by
  induction l1 with
  | nil => simp [updT]
  | cons q l ih =>
    simp only [List.map_cons, List.mem_cons, not_or] at h
    simp only [List.cons_append, updT]
    rw [if_neg (fun e => h.1 e.symm), ih h.2]
theorem updT_new (e : Ev) (l : List (Met × TK)) (h : (e.kind, e.name) ∉ l.map (·.1)) : updT e l = l ++ [((e.kind, e.name), (freshK e.kind).take e)] := by
  induction l with
  | nil => rfl
  | cons q l ih =>
    simp only [List.map_cons, List.mem_cons, not_or] at h
    simp only [List.cons_append, updT]
    rw [if_neg (fun e => h.1 e.symm), ih h.2]
abbrev TMO : TypeId := 73
abbrev TMW : TypeId := 88
theorem zeroMW (w : World) : (zeroValue TMW).run Tryz.prog w = .ok (.map none) w := by kernel_rfl
theorem zeroTk (w : World) : (zeroValue 92).run Tryz.prog w = .ok .nilIface w := by kernel_rfl
theorem map_eql (b : Nat) (W : World) : (binOp .eql TMW (.map (some b)) (.map none)).run Tryz.prog W = .ok (.bool false) W := by kernel_rfl
theorem map_eql0 (W : World) : (binOp .eql TMW (.map none) (.map none)).run Tryz.prog W = .ok (.bool true) W := by kernel_rfl
def ApQ (w : World) (base a : Nat) (own : Nat → Tag) (A : AgL) (id : Int) (e : Ev) (w' : World) : Prop := ∃ own' A', AggAt w' base a own' A' ∧ A'.pl = A.pl.apply id e ∧ A'.b0 = A.b0 ∧ A'.b1 = A.b1 ∧ Ext w.heap.size own own' ∧ UpdO own w w'
theorem ok_mono {N M : Nat} {tk : TK} (h : tk.ok N) (hm : N ≤ M) : tk.ok M := by
  cases tk <;> simp only [TK.ok] at h ⊢ <;> omega
set_option maxRecDepth 20000 in
set_option maxHeartbeats 8000000 in
theorem apply_calls (base a N : Nat) (own : Nat → Tag) (A : AgL) (id : Int) (e : Ev) (w : World) (h : AggAt w base a own A) (hN : ∀ r ∈ A.ws, ∀ t ∈ r.ts, t.tk.ok N) (hN2 : N ≤ 4194303) (hM : MaxL w) (hn : e.name.size ≤ 1048576) (hm : e.member.size ≤ maxLen) (hbase : base ≤ w.heap.size) (hb0 : 0 < base) :
    Calls Tryz.prog 16 #[.pointer (some ⟨a, 0, none⟩), .int .i64 id, .agg (evC e).toArray] w fun x w' => x = .returned (.int .i64 (acode A.bound id e)) ∧ ApQ w base a own A id e w' := by
  have hU0 := (Upd.refl [] w).alloc (.cells (evC e).toArray TEv)
  have HE := Lib.hid (HB.new w TEv (evC e))
  have HMD := Lib.hid (made_calls (h.hb.upd hU0 (by simp)))
  have HCK := Lib.hid (chk_calls e hn hm _ (hM.upd0 hU0))
  have HA := Lib.hid (h.upd0 hU0)
  have HU0 := Lib.hid hU0
  have HO := Lib.hid (show own w.heap.size = .no from Classical.byContradiction fun hc => by have := (h.lo _ hc).2; omega)
  have hne : ∀ b, own b ≠ .no → b ≠ w.heap.size := fun b hb he => hb (by rw [he]; exact HO.out)
  obtain ⟨R, hR⟩ : ∃ R, R = acode A.bound id e := ⟨_, rfl⟩
  rw [← hR]
  have HR := Lib.hid hR
  have HN := Lib.hid hN
  have HNE := Lib.hid hne
  have HBS := Lib.hid hbase
  clear h hM hN hR hU0 hne hbase
  obtain ⟨ck, hck⟩ : ∃ ck, ck = chk e := ⟨_, rfl⟩
  rw [← hck] at HCK
  have HC := Lib.hid hck
  clear hck
  obtain ⟨b0, b1, ws, gs, bd⟩ := A
  dsimp only at *
  obtain ⟨W0, hW0⟩ : ∃ W0, W0 = w.alloc (.cells (evC e).toArray TEv) := ⟨_, rfl⟩
  rw [← hW0] at HE HMD HCK HA HU0
  have hW0' : w.alloc (.cells #[.string e.name, .int .i64 e.kind, .int .i64 e.value, .bool e.delta, .string e.member, .int .i64 e.rate, .bool e.timed, .int .i64 e.time] TEv) = W0 := hW0.symm
  have e0 := HE.out.cell (j := 0) rfl
  have e1 := HE.out.cell (j := 1) rfl
  have e2 := HE.out.cell (j := 2) rfl
  have e3 := HE.out.cell (j := 3) rfl
  have e4 := HE.out.cell (j := 4) rfl
  have e5 := HE.out.cell (j := 5) rfl
  have e6 := HE.out.cell (j := 6) rfl
  have e7 := HE.out.cell (j := 7) rfl
  unfold evC
  go_enter Tryz.func16, Tryz.ntmps16
  go_wp2_with fail
  rw [← hW0]
  clear hW0 hW0'
  refine HMD.out.mono ?_
  rintro x w' ⟨rfl, rfl⟩
  go_wp2_with fail
  refine HCK.out.mono ?_
  rintro x w1 ⟨rfl, hU1⟩
  have HU1 := Lib.hid (HU0.out.then hU1)
  have HA1 := Lib.hid (HA.out.upd0 hU1)
  have HE1 := Lib.hid (HE.out.upd hU1 (by simp))
  clear hU1 e0 e1 e2 e3 e4 e5 e6 e7 HU0 HA HE HCK HMD
  have HREJ := Lib.hid (show R ≠ 0 → ApQ w base a own ⟨b0, b1, ws, gs, bd⟩ id e w1 from fun hr => ⟨own, _, HA1.out, by
    show AgL.pl _ = if acode bd id e = 0 then _ else _
    rw [if_neg (by rw [← HR.out]; exact hr)], rfl, rfl, Ext.refl _ _, UpdO.of0 HU1.out⟩)
  by_cases hc : ck = 0
  · subst hc
    have cb := HA1.out.hb.cell (j := 2) rfl
    by_cases hb : id ≤ bd
    · have db : decide (id ≤ bd) = true := decide_eq_true hb
      obtain rfl : R = 81 := by rw [HR.out]; unfold acode; rw [if_pos HC.out.symm, if_pos hb]
      clear hb
      go_wp2
      go_ret
      exact ⟨rfl, HREJ.out (by decide)⟩
    · have db : decide (id ≤ bd) = false := decide_eq_false hb
      have HR0 := Lib.hid (show R = 0 by rw [HR.out]; unfold acode; rw [if_pos HC.out.symm, if_neg hb])
      obtain rfl := HR0.out
      obtain ⟨hkd, hv, hrt⟩ := chk_ok HC.out.symm
      have HAP := Lib.hid (show (⟨b0, b1, ws, gs, bd⟩ : AgL).pl.apply id e = { (⟨b0, b1, ws, gs, bd⟩ : AgL).pl with ws := updW id e (ws.map WR.pl) } by show (if acode bd id e = 0 then _ else _) = _; rw [if_pos HR.out.symm]; rfl)
      have HKD := Lib.hid hkd
      have HV := Lib.hid hv
      have HRT := Lib.hid hrt
      clear hb HREJ hkd hv hrt
      have c0 := HA1.out.hb.cell (j := 0) rfl
      have hmo := map_eql
      have hmo0 := map_eql0
      rcases find_split WR.id id ws with hnw | ⟨l1, r, l2, rfl, hid, hl1⟩
      · have hlk := run_lookup (P := Tryz.prog) klI Tryz.underlying73 HA1.out.op id false (zeroMW w1)
        rw [show look id (⟨b0, b1, ws, gs, bd⟩ : AgL).opn = none from look_not _ _ _ _ hnw] at hlk
        simp only [Option.getD_none, Bool.false_eq_true, if_false] at hlk
        have hmm := @run_makeMap Tryz.prog
        have hMN := MapAt.new w1 kvM
        have hUm := (Upd.refl [] w1).alloc (.map #[] 0)
        obtain ⟨w2, hrun, hop2, hU2⟩ := run_update (P := Tryz.prog) klI Tryz.underlying73 ((HA1.out.upd0 hUm).op) id (.map (some w1.heap.size))
        have cm := (HA1.out.upd0 hUm).hb.cell (j := 0) rfl
        have HNB := Lib.hid (show w1.heap.size ≠ b0 from fun he => by have := HA1.out.op.lt; dsimp only at this; omega)
        have hA2 := HA1.out.addW (bw := w1.heap.size) (id := id) (by rw [put_new _ _ _ (by rw [opn_ids]; exact hnw)] at hop2; exact hop2) (hMN.upd hU2 (by simpa using HNB.out)) ((hUm.of0).then hU2) (Nat.le_refl _) (by have := HBS.out; have := HU1.out.size; omega)
        have HE2 := Lib.hid ((HE1.out.upd hUm (by simp)).upd hU2 (by simp; exact fun he => HNE.out b0 (by rw [show own b0 = _ from HA1.out.o0]; simp) he.symm))
        obtain ⟨o2, ho2⟩ : ∃ o2, o2 = (fun b => if b = w1.heap.size then Tag.win id else own b) := ⟨_, rfl⟩
        rw [← ho2] at hA2
        have hsz1 := HU1.out.size
        have hebl := HE1.out.lt
        have HX2 := Lib.hid (show Ext w.heap.size own o2 from fun b hb => by rw [ho2]; exact if_neg (by omega))
        have HOE := Lib.hid (show o2 w.heap.size = .no by rw [ho2]; show (if w.heap.size = w1.heap.size then Tag.win id else own w.heap.size) = _; rw [if_neg (by omega)]; exact HO.out)
        have HO2 := Lib.hid (show UpdO own w w2 from ⟨[b0], ((HU1.out.then hUm).of0).then hU2, fun b hb => by simp at hb; subst hb; rw [show own b = _ from HA1.out.o0]; simp⟩)
        have HA2 := Lib.hid hA2
        have HPL := Lib.hid (show updW id e (ws.map WR.pl) = (ws.map WR.pl) ++ (id, updT e (([] : List TR).map fun t => (t.key, t.tk))) :: ([] : List WR).map WR.pl by
          rw [updW_new _ _ _ (by rw [List.map_map]; exact hnw)]
          rfl)
        have HN2 := Lib.hid (show ∀ t ∈ ([] : List TR), t.tk.ok N from fun t ht => by cases ht)
        obtain ⟨ts, hts0⟩ : ∃ ts, ts = ([] : List TR) := ⟨_, rfl⟩
        have HA2 := Lib.hid (show AggAt w2 base a o2 ⟨b0, b1, ws ++ ⟨id, w1.heap.size, ts⟩ :: [], gs, bd⟩ by rw [hts0]; exact HA2.out)
        rw [← hts0] at HPL HN2
        clear hA2 ho2 hsz1 hebl hop2 hMN hts0 hnw
        -- w2 o2 L1 ts L2 bw: the window is there
        have e0 := HE2.out.cell (j := 0) rfl
        have e1 := HE2.out.cell (j := 1) rfl
        have hUm2 := (Upd.refl [] w2).alloc (.cells #[.int .i64 e.kind, .string e.name] TMet)
        have HA3 := Lib.hid (HA2.out.upd0 hUm2)
        have HE3 := Lib.hid (HE2.out.upd hUm2 (by simp))
        have HMB := Lib.hid (HB.new w2 TMet [.int .i64 e.kind, .string e.name])
        have HX3 := Lib.hid (HX2.out)
        have HO3 := Lib.hid (HO2.out.trans (UpdO.of0 (own := o2) hUm2) HX2.out)
        have HSW := Lib.hid (HO2.out.size)
        have hmem : (⟨id, w1.heap.size, ts⟩ : WR) ∈ ws ++ ⟨id, w1.heap.size, ts⟩ :: [] := by simp
        have HWI := Lib.hid (HA3.out.wi _ hmem)
        have HOEB := Lib.hid (show o2 w.heap.size = .no ∧ o2 w2.heap.size = .no from ⟨HOE.out, Classical.byContradiction fun hc => by have := (HA2.out.lo _ hc).2; omega⟩)
        have hnil : ∀ W, (binOp .eql 92 .nilIface .nilIface).run Tryz.prog W = .ok (.bool true) W := fun W => by kernel_rfl
        clear hmem hUm2
        rcases find_split TR.key (e.kind, e.name) ts with hnt | ⟨m1, t, m2, hts, htk, hm1⟩
        · have hlk3 := run_lookup (P := Tryz.prog) klM Tryz.underlying88 HWI.out (e.kind, e.name) false (zeroTk _)
          rw [show look (e.kind, e.name) (⟨id, w1.heap.size, ts⟩ : WR).ents = none from look_not _ _ _ _ hnt] at hlk3
          simp only [Option.getD_none, Bool.false_eq_true, if_false] at hlk3
          unfold kvM at hlk3
          dsimp only at hlk3
          go_wp2_with fail
          clear e0 e1 hlk3 hnil
          generalize hmb : w2.heap.size = mb at *
          generalize w2.alloc (.cells #[.int .i64 e.kind, .string e.name] TMet) = w3 at *
          have m0 := fun q : Wd [] w3 => q.h.cell (HMB.out.cell (j := 0) rfl) (by simp)
          have mm1 := fun q : Wd [] w3 => q.h.cell (HMB.out.cell (j := 1) rfl) (by simp)
          have k1 := fun q : Wd [] w3 => q.h.cell (HE3.out.cell (j := 1) rfl) (by simp)
          have HFR := Lib.hid (fresh_calls base e.kind HKD.out w3.drew (by have := HBS.out; have := HO3.out.size; show base ≤ w3.heap.size; omega))
          refine mix_start (n := 6) 5 (fun w' => ∃ p : Wd [] w3, w' = p.v) (by kernel_rfl) (by kernel_rfl) ?_
          refine mix_quiet [true, true, true, true] 2 rfl (by kernel_rfl) (by kernel_rfl) (by kernel_rfl) (by kernel_rfl) ⟨⟨_, (Upd.refl [] w3).drew⟩, rfl⟩ ?_
          simp only [maskL]
          repeat (go_big_quiet_step (fail))
          refine wpQuiet_nil ?_
          clear m0 mm1 k1
          refine mix_one 4 (by kernel_rfl) (by kernel_rfl) rfl ?_
          intro K QF hK
          go_wp2_with fail
          refine HFR.out.mono ?_
          rintro y w4 ⟨p, x, rfl, htp, hp, hx, hU4⟩
          have HU4 := Lib.hid ((Upd.refl [] w3).drew.then hU4)
          have HTP := Lib.hid htp
          have HPX := Lib.hid (And.intro (show w3.heap.size ≤ p from hp) hx)
          clear hU4 htp hp hx HFR
          go_wp2_with fail
          refine hK _ _ ⟨⟨_, HU4.out⟩, rfl⟩ ?_
          clear hK K QF
          obtain ⟨w5, hrun5, hM5, hU5⟩ := run_update (P := Tryz.prog) klM Tryz.underlying88 (HWI.out.upd HU4.out (by simp)) (e.kind, e.name) (.iface (freshK e.kind).ty (.pointer (some ⟨p, 0, none⟩)))
          rw [put_new _ _ _ (by rw [ents_keys]; exact hnt)] at hM5
          unfold kvM at hrun5
          dsimp only at hrun5
          obtain ⟨t, htd⟩ : ∃ t : TR, t = ⟨e.kind, e.name, p, x, freshK e.kind⟩ := ⟨_, rfl⟩
          have HW5 := Lib.hid (HU4.out.of0.then hU5)
          have hbwl : w1.heap.size < w3.heap.size := HWI.out.lt
          have hpx1 := HPX.out.1
          have hdr : w3.drew.heap.size = w3.heap.size := rfl
          have hbn : ∀ b, o2 b ≠ .no → o2 b ≠ .win id → b ∉ [w1.heap.size] := fun b _ h2 hm => by
            simp at hm
            rw [hm] at h2
            exact h2 (HA3.out.ow ⟨id, w1.heap.size, ts⟩ (by simp))
          have hA5 := AggAt.addT (t := t) HA3.out (by rw [htd]; exact hM5) (by rw [htd]; exact HTP.out.upd hU5 (by simp; omega) (fun b hb => by simp; have := (HPX.out.2 _ hb).1; omega)) (by rw [htd]; exact fresh_kind HKD.out) HW5.out (by rw [htd]; exact HPX.out.1) (by rw [htd]; exact HPX.out.2) (by have := HBS.out; have := HO3.out.size; omega)
          have hwb : o2 w1.heap.size = .win id := HA3.out.ow ⟨id, w1.heap.size, ts⟩ (by simp)
          have HE5 := Lib.hid (HE3.out.upd HW5.out (by simp; intro he; have := HOEB.out.1; rw [he, hwb] at this; cases this))
          have HMB5 := Lib.hid (HMB.out.upd HW5.out (by simp; intro he; have := HOEB.out.2; rw [he, hwb] at this; cases this))
          obtain ⟨o5, ho5⟩ : ∃ o5, o5 = (fun b => if b = t.p then Tag.tak id t.k t.n else if b ∈ t.x then .aux id t.k t.n else o2 b) := ⟨_, rfl⟩
          have HA5 := Lib.hid (show AggAt w5 base a o5 ⟨b0, b1, ws ++ ⟨id, w1.heap.size, ts ++ t :: []⟩ :: [], gs, bd⟩ by rw [ho5]; exact hA5)
          have hsz3 := HO3.out.size
          have HX5 := Lib.hid (show Ext w.heap.size own o5 from HX3.out.trans (m := w3.heap.size) (fun b hb => by
            rw [ho5]
            show (if b = t.p then Tag.tak id t.k t.n else if b ∈ t.x then .aux id t.k t.n else o2 b) = o2 b
            rw [if_neg (by rw [htd]; dsimp only; omega), if_neg (fun hm => by rw [htd] at hm; have := (HPX.out.2 b hm).1; omega)]) hsz3)
          have HO5 := Lib.hid (HO3.out.trans (own' := o2) ⟨_, HW5.out, fun b hb => by simp at hb; rw [hb, hwb]; simp⟩ HX3.out)
          have HTN := Lib.hid (show t.tk.ok N by rw [htd]; exact ok_mono (fresh_ok _) (Nat.zero_le _))
          have HTKEY := Lib.hid (show t.key = (e.kind, e.name) by rw [htd]; rfl)
          have HPT := Lib.hid (show updT e (ts.map fun t => (t.key, t.tk)) = (ts.map fun t => (t.key, t.tk)) ++ (t.key, t.tk.take e) :: ([] : List TR).map fun t => (t.key, t.tk) by
            rw [updT_new e _ (by rw [List.map_map]; exact hnt), htd]
            rfl)
          clear hA5 ho5 htd hbn hbwl hpx1 hdr hM5 hU5 hwb hsz3
          refine mix_tail (by kernel_rfl) (by kernel_rfl) ?_
          simp only [List.drop_succ_cons, List.drop_zero]
          go_wp2_with fail
          clear hrun5
          have hmz : (⟨id, w1.heap.size, ts ++ t :: []⟩ : WR) ∈ ws ++ ⟨id, w1.heap.size, ts ++ t :: []⟩ :: [] := by simp
          have HWZ := Lib.hid (HA5.out.wi _ hmz)
          have HTZ := Lib.hid (HA5.out.tk _ hmz t (by simp))
          have hkz := HWZ.out.nodup
          rw [ents_keys] at hkz
          have htn : t.key ∉ (ts).map TR.key := fun hm => by
            obtain ⟨s, hs, he⟩ := List.mem_map.1 hm
            exact split_ne TR.key hkz s (.inl hs) he
          have hlz : ∀ q : Wd [] w5, (Instr.lookup TMW (.map (some w1.heap.size)) (.agg #[.int .i64 e.kind, .string e.name]) false).run Tryz.prog q.v = .ok t.val q.v := fun q => by
            have h := run_lookup (P := Tryz.prog) klM Tryz.underlying88 (HWZ.out.upd q.h (by simp)) (e.kind, e.name) false (zeroTk q.v)
            rw [show look (e.kind, e.name) (⟨id, w1.heap.size, ts ++ t :: []⟩ : WR).ents = some t.val by rw [← HTKEY.out]; exact look_at TR.key TR.val _ _ _ htn] at h
            simp only [Option.getD_some, Bool.false_eq_true, if_false] at h
            exact h
          have m0 := fun q : Wd [] w5 => q.h.cell (HMB5.out.cell (j := 0) rfl) (by simp)
          have mm1 := fun q : Wd [] w5 => q.h.cell (HMB5.out.cell (j := 1) rfl) (by simp)
          have e0 := fun q : Wd [] w5 => q.h.cell (HE5.out.cell (j := 0) rfl) (by simp)
          have e1 := fun q : Wd [] w5 => q.h.cell (HE5.out.cell (j := 1) rfl) (by simp)
          have e2 := fun q : Wd [] w5 => q.h.cell (HE5.out.cell (j := 2) rfl) (by simp)
          have e3 := fun q : Wd [] w5 => q.h.cell (HE5.out.cell (j := 3) rfl) (by simp)
          have e4 := fun q : Wd [] w5 => q.h.cell (HE5.out.cell (j := 4) rfl) (by simp)
          have e5 := fun q : Wd [] w5 => q.h.cell (HE5.out.cell (j := 5) rfl) (by simp)
          have e6 := fun q : Wd [] w5 => q.h.cell (HE5.out.cell (j := 6) rfl) (by simp)
          have e7 := fun q : Wd [] w5 => q.h.cell (HE5.out.cell (j := 7) rfl) (by simp)
          have hbz : base ≤ w5.heap.size := by have := HBS.out; have := HO5.out.size; omega
          have HTC := Lib.hid (take_calls base t.p N t.x t.tk e w5.drew (HTZ.out.1.upd (Upd.refl [] w5).drew (by simp) (by simp)) HTN.out hN2 hbz HV.out HRT.out)
          have HFIN := Lib.hid (show ∀ w6 x', TakAt w6 base t.p x' (t.tk.take e) → (∀ b ∈ x', b ∈ t.x ∨ w5.heap.size ≤ b) → Upd (t.p :: t.x) w5 w6 → ApQ w base a own ⟨b0, b1, ws, gs, bd⟩ id e w6 from fun w6 x' g1 g2 g3 => by
            have hA6 := AggAt.setT HA5.out g1 (by rw [take_kind]; exact HTZ.out.2) (take_F _ _) g3 g2 hbz
            have ho := HA5.out.ot _ hmz t (by simp)
            refine ⟨_, _, hA6, ?_, rfl, rfl, ?_, ?_⟩
            · rw [HAP.out, HPL.out, HPT.out]
              unfold AgL.pl
              simp [WR.pl, TR.key]
            · refine HX5.out.trans (m := w5.heap.size) (fun b hb => ?_) HO5.out.size
              show (if b ∈ x' then Tag.aux id t.k t.n else o5 b) = o5 b
              by_cases hm : b ∈ x'
              · rw [if_pos hm]
                rcases g2 b hm with h | h
                · exact (ho.2 b h).symm
                · omega
              · exact if_neg hm
            · refine HO5.out.trans (own' := o5) ⟨_, g3, fun b hb => ?_⟩ HX5.out
              rcases List.mem_cons.1 hb with rfl | hb
              · rw [ho.1]; simp
              · rw [ho.2 b hb]; simp)
          clear hmz hkz htn hbz
          obtain ⟨tk, htk0⟩ : ∃ tk, tk = t.tk := ⟨_, rfl⟩
          obtain ⟨tp, htp0⟩ : ∃ tp, tp = t.p := ⟨_, rfl⟩
          unfold TR.val at hlz
          rw [← htk0, ← htp0] at hlz
          rw [← htk0, ← htp0] at HTC HFIN
          clear htk0 htp0
          cases tk
          all_goals
            simp only [TK.ty] at hlz
            refine mix_start (n := 5) 4 (fun w' => ∃ p : Wd [] w5, w' = p.v) (by kernel_rfl) (by kernel_rfl) ?_
            refine mix_quiet [true, true, true, true] 1 rfl (by kernel_rfl) (by kernel_rfl) (by kernel_rfl) (by kernel_rfl) ⟨⟨_, (Upd.refl [] w5).drew⟩, rfl⟩ ?_
            simp only [maskL]
            repeat (go_big_quiet_step (fail))
            refine wpQuiet_nil ?_
            clear m0 mm1 e0 e1 e2 e3 e4 e5 e6 e7 hlz
            refine mix_tail (by kernel_rfl) (by kernel_rfl) ?_
            simp only [List.drop_succ_cons, List.drop_zero]
            go_wp2_with fail
            refine HTC.out.mono ?_
            rintro y w6 ⟨rfl, x', g1, g2, g3⟩
            have HRES := Lib.hid (HFIN.out w6 x' g1 g2 ((Upd.refl _ w5).drew.then g3))
            clear g1 g2 g3
            go_wp2
            go_ret
            exact ⟨rfl, HRES.out⟩
        · subst hts
          have hlk3 := run_lookup (P := Tryz.prog) klM Tryz.underlying88 HWI.out (e.kind, e.name) false (zeroTk _)
          rw [show look (e.kind, e.name) (⟨id, w1.heap.size, m1 ++ t :: m2⟩ : WR).ents = some t.val by rw [← htk]; rw [← htk] at hm1; exact look_at TR.key TR.val _ _ _ hm1] at hlk3
          simp only [Option.getD_some, Bool.false_eq_true, if_false] at hlk3
          unfold kvM at hlk3
          dsimp only at hlk3
          unfold TR.val at hlk3
          go_wp2_with fail
          clear e0 e1 hlk3 hnil
          generalize w2.heap.size = mb at *
          generalize w2.alloc (.cells #[.int .i64 e.kind, .string e.name] TMet) = w5 at *
          have HA5 := Lib.hid HA3.out
          have HE5 := Lib.hid HE3.out
          have HMB5 := Lib.hid HMB.out
          have HX5 := Lib.hid HX3.out
          have HO5 := Lib.hid HO3.out
          have HTN := Lib.hid (HN2.out t (by simp))
          have HTKEY := Lib.hid htk
          have HPT := Lib.hid (show updT e ((m1 ++ t :: m2).map fun t => (t.key, t.tk)) = (m1.map fun t => (t.key, t.tk)) ++ (t.key, t.tk.take e) :: m2.map fun t => (t.key, t.tk) by
            rw [List.map_append, List.map_cons, htk]
            exact updT_at e _ _ _ (by rw [List.map_map]; exact hm1))
          clear htk hm1 HA3 HE3 HMB HX3 HO3
          have hmz : (⟨id, w1.heap.size, m1 ++ t :: m2⟩ : WR) ∈ ws ++ ⟨id, w1.heap.size, m1 ++ t :: m2⟩ :: [] := by simp
          have HWZ := Lib.hid (HA5.out.wi _ hmz)
          have HTZ := Lib.hid (HA5.out.tk _ hmz t (by simp))
          have hkz := HWZ.out.nodup
          rw [ents_keys] at hkz
          have htn : t.key ∉ (m1).map TR.key := fun hm => by
            obtain ⟨s, hs, he⟩ := List.mem_map.1 hm
            exact split_ne TR.key hkz s (.inl hs) he
          have hlz : ∀ q : Wd [] w5, (Instr.lookup TMW (.map (some w1.heap.size)) (.agg #[.int .i64 e.kind, .string e.name]) false).run Tryz.prog q.v = .ok t.val q.v := fun q => by
            have h := run_lookup (P := Tryz.prog) klM Tryz.underlying88 (HWZ.out.upd q.h (by simp)) (e.kind, e.name) false (zeroTk q.v)
            rw [show look (e.kind, e.name) (⟨id, w1.heap.size, m1 ++ t :: m2⟩ : WR).ents = some t.val by rw [← HTKEY.out]; exact look_at TR.key TR.val _ _ _ htn] at h
            simp only [Option.getD_some, Bool.false_eq_true, if_false] at h
            exact h
          have m0 := fun q : Wd [] w5 => q.h.cell (HMB5.out.cell (j := 0) rfl) (by simp)
          have mm1 := fun q : Wd [] w5 => q.h.cell (HMB5.out.cell (j := 1) rfl) (by simp)
          have e0 := fun q : Wd [] w5 => q.h.cell (HE5.out.cell (j := 0) rfl) (by simp)
          have e1 := fun q : Wd [] w5 => q.h.cell (HE5.out.cell (j := 1) rfl) (by simp)
          have e2 := fun q : Wd [] w5 => q.h.cell (HE5.out.cell (j := 2) rfl) (by simp)
          have e3 := fun q : Wd [] w5 => q.h.cell (HE5.out.cell (j := 3) rfl) (by simp)
          have e4 := fun q : Wd [] w5 => q.h.cell (HE5.out.cell (j := 4) rfl) (by simp)
          have e5 := fun q : Wd [] w5 => q.h.cell (HE5.out.cell (j := 5) rfl) (by simp)
          have e6 := fun q : Wd [] w5 => q.h.cell (HE5.out.cell (j := 6) rfl) (by simp)
          have e7 := fun q : Wd [] w5 => q.h.cell (HE5.out.cell (j := 7) rfl) (by simp)
          have hbz : base ≤ w5.heap.size := by have := HBS.out; have := HO5.out.size; omega
          have HTC := Lib.hid (take_calls base t.p N t.x t.tk e w5.drew (HTZ.out.1.upd (Upd.refl [] w5).drew (by simp) (by simp)) HTN.out hN2 hbz HV.out HRT.out)
          have HFIN := Lib.hid (show ∀ w6 x', TakAt w6 base t.p x' (t.tk.take e) → (∀ b ∈ x', b ∈ t.x ∨ w5.heap.size ≤ b) → Upd (t.p :: t.x) w5 w6 → ApQ w base a own ⟨b0, b1, ws, gs, bd⟩ id e w6 from fun w6 x' g1 g2 g3 => by
            have hA6 := AggAt.setT HA5.out g1 (by rw [take_kind]; exact HTZ.out.2) (take_F _ _) g3 g2 hbz
            have ho := HA5.out.ot _ hmz t (by simp)
            refine ⟨_, _, hA6, ?_, rfl, rfl, ?_, ?_⟩
            · rw [HAP.out, HPL.out, HPT.out]
              unfold AgL.pl
              simp [WR.pl, TR.key]
            · refine HX5.out.trans (m := w5.heap.size) (fun b hb => ?_) HO5.out.size
              show (if b ∈ x' then Tag.aux id t.k t.n else o2 b) = o2 b
              by_cases hm : b ∈ x'
              · rw [if_pos hm]
                rcases g2 b hm with h | h
                · exact (ho.2 b h).symm
                · omega
              · exact if_neg hm
            · refine HO5.out.trans (own' := o2) ⟨_, g3, fun b hb => ?_⟩ HX5.out
              rcases List.mem_cons.1 hb with rfl | hb
              · rw [ho.1]; simp
              · rw [ho.2 b hb]; simp)
          clear hmz hkz htn hbz
          obtain ⟨tk, htk0⟩ : ∃ tk, tk = t.tk := ⟨_, rfl⟩
          obtain ⟨tp, htp0⟩ : ∃ tp, tp = t.p := ⟨_, rfl⟩
          unfold TR.val at hlz
          rw [← htk0, ← htp0] at hlz
          rw [← htk0, ← htp0] at HTC HFIN
          clear htk0 htp0
          cases tk
          all_goals
            simp only [TK.ty] at hlz
            refine mix_start (n := 5) 4 (fun w' => ∃ p : Wd [] w5, w' = p.v) (by kernel_rfl) (by kernel_rfl) ?_
            refine mix_quiet [true, true, true, true] 1 rfl (by kernel_rfl) (by kernel_rfl) (by kernel_rfl) (by kernel_rfl) ⟨⟨_, (Upd.refl [] w5).drew⟩, rfl⟩ ?_
            simp only [maskL]
            repeat (go_big_quiet_step (fail))
            refine wpQuiet_nil ?_
            clear m0 mm1 e0 e1 e2 e3 e4 e5 e6 e7 hlz
            refine mix_tail (by kernel_rfl) (by kernel_rfl) ?_
            simp only [List.drop_succ_cons, List.drop_zero]
            go_wp2_with fail
            refine HTC.out.mono ?_
            rintro y w6 ⟨rfl, x', g1, g2, g3⟩
            have HRES := Lib.hid (HFIN.out w6 x' g1 g2 ((Upd.refl _ w5).drew.then g3))
            clear g1 g2 g3
            go_wp2
            go_ret
            exact ⟨rfl, HRES.out⟩
      · obtain ⟨rid, bw, ts⟩ := r
        obtain rfl : id = rid := hid.symm
        have hlk := run_lookup (P := Tryz.prog) klI Tryz.underlying73 HA1.out.op id false (zeroMW w1)
        rw [show look id (⟨b0, b1, l1 ++ ⟨id, bw, ts⟩ :: l2, gs, bd⟩ : AgL).opn = some (.map (some bw)) from look_at WR.id (fun r => Value.map (some r.b)) l1 l2 ⟨id, bw, ts⟩ hl1] at hlk
        simp only [Option.getD_some, Bool.false_eq_true, if_false] at hlk
        have HA2 := Lib.hid HA1.out
        have HE2 := Lib.hid HE1.out
        have HX2 := Lib.hid (Ext.refl w.heap.size own)
        have HOE := Lib.hid HO.out
        have HO2 := Lib.hid (UpdO.of0 (own := own) HU1.out)
        have HPL := Lib.hid (show updW id e ((l1 ++ ⟨id, bw, ts⟩ :: l2).map WR.pl) = (l1.map WR.pl) ++ (id, updT e (ts.map fun t => (t.key, t.tk))) :: l2.map WR.pl by
          rw [List.map_append, List.map_cons]
          exact updW_at id e _ _ _ (by rw [List.map_map]; exact hl1))
        have HN2 := Lib.hid (show ∀ t ∈ ts, t.tk.ok N from fun t ht => HN.out ⟨id, bw, ts⟩ (by simp) t ht)
        clear hl1 HA1 HE1 HU1
        generalize w1 = w2 at *
        -- w2 o2 L1 ts L2 bw: the window is there
        have e0 := HE2.out.cell (j := 0) rfl
        have e1 := HE2.out.cell (j := 1) rfl
        have hUm2 := (Upd.refl [] w2).alloc (.cells #[.int .i64 e.kind, .string e.name] TMet)
        have HA3 := Lib.hid (HA2.out.upd0 hUm2)
        have HE3 := Lib.hid (HE2.out.upd hUm2 (by simp))
        have HMB := Lib.hid (HB.new w2 TMet [.int .i64 e.kind, .string e.name])
        have HX3 := Lib.hid (HX2.out)
        have HO3 := Lib.hid (HO2.out.trans (UpdO.of0 (own := own) hUm2) HX2.out)
        have HSW := Lib.hid (HO2.out.size)
        have hmem : (⟨id, bw, ts⟩ : WR) ∈ l1 ++ ⟨id, bw, ts⟩ :: l2 := by simp
        have HWI := Lib.hid (HA3.out.wi _ hmem)
        have HOEB := Lib.hid (show own w.heap.size = .no ∧ own w2.heap.size = .no from ⟨HOE.out, Classical.byContradiction fun hc => by have := (HA2.out.lo _ hc).2; omega⟩)
        have hnil : ∀ W, (binOp .eql 92 .nilIface .nilIface).run Tryz.prog W = .ok (.bool true) W := fun W => by kernel_rfl
        clear hmem hUm2
        rcases find_split TR.key (e.kind, e.name) ts with hnt | ⟨m1, t, m2, hts, htk, hm1⟩
        · have hlk3 := run_lookup (P := Tryz.prog) klM Tryz.underlying88 HWI.out (e.kind, e.name) false (zeroTk _)
          rw [show look (e.kind, e.name) (⟨id, bw, ts⟩ : WR).ents = none from look_not _ _ _ _ hnt] at hlk3
          simp only [Option.getD_none, Bool.false_eq_true, if_false] at hlk3
          unfold kvM at hlk3
          dsimp only at hlk3
          go_wp2_with fail
          clear e0 e1 hlk3 hnil
          generalize hmb : w2.heap.size = mb at *
          generalize w2.alloc (.cells #[.int .i64 e.kind, .string e.name] TMet) = w3 at *
          have m0 := fun q : Wd [] w3 => q.h.cell (HMB.out.cell (j := 0) rfl) (by simp)
          have mm1 := fun q : Wd [] w3 => q.h.cell (HMB.out.cell (j := 1) rfl) (by simp)
          have k1 := fun q : Wd [] w3 => q.h.cell (HE3.out.cell (j := 1) rfl) (by simp)
          have HFR := Lib.hid (fresh_calls base e.kind HKD.out w3.drew (by have := HBS.out; have := HO3.out.size; show base ≤ w3.heap.size; omega))
          refine mix_start (n := 6) 5 (fun w' => ∃ p : Wd [] w3, w' = p.v) (by kernel_rfl) (by kernel_rfl) ?_
          refine mix_quiet [true, true, true, true] 2 rfl (by kernel_rfl) (by kernel_rfl) (by kernel_rfl) (by kernel_rfl) ⟨⟨_, (Upd.refl [] w3).drew⟩, rfl⟩ ?_
          simp only [maskL]
          repeat (go_big_quiet_step (fail))
          refine wpQuiet_nil ?_
          clear m0 mm1 k1
          refine mix_one 4 (by kernel_rfl) (by kernel_rfl) rfl ?_
          intro K QF hK
          go_wp2_with fail
          refine HFR.out.mono ?_
          rintro y w4 ⟨p, x, rfl, htp, hp, hx, hU4⟩
          have HU4 := Lib.hid ((Upd.refl [] w3).drew.then hU4)
          have HTP := Lib.hid htp
          have HPX := Lib.hid (And.intro (show w3.heap.size ≤ p from hp) hx)
          clear hU4 htp hp hx HFR
          go_wp2_with fail
          refine hK _ _ ⟨⟨_, HU4.out⟩, rfl⟩ ?_
          clear hK K QF
          obtain ⟨w5, hrun5, hM5, hU5⟩ := run_update (P := Tryz.prog) klM Tryz.underlying88 (HWI.out.upd HU4.out (by simp)) (e.kind, e.name) (.iface (freshK e.kind).ty (.pointer (some ⟨p, 0, none⟩)))
          rw [put_new _ _ _ (by rw [ents_keys]; exact hnt)] at hM5
          unfold kvM at hrun5
          dsimp only at hrun5
          obtain ⟨t, htd⟩ : ∃ t : TR, t = ⟨e.kind, e.name, p, x, freshK e.kind⟩ := ⟨_, rfl⟩
          have HW5 := Lib.hid (HU4.out.of0.then hU5)
          have hbwl : bw < w3.heap.size := HWI.out.lt
          have hpx1 := HPX.out.1
          have hdr : w3.drew.heap.size = w3.heap.size := rfl
          have hbn : ∀ b, own b ≠ .no → own b ≠ .win id → b ∉ [bw] := fun b _ h2 hm => by
            simp at hm
            rw [hm] at h2
            exact h2 (HA3.out.ow ⟨id, bw, ts⟩ (by simp))
          have hA5 := AggAt.addT (t := t) HA3.out (by rw [htd]; exact hM5) (by rw [htd]; exact HTP.out.upd hU5 (by simp; omega) (fun b hb => by simp; have := (HPX.out.2 _ hb).1; omega)) (by rw [htd]; exact fresh_kind HKD.out) HW5.out (by rw [htd]; exact HPX.out.1) (by rw [htd]; exact HPX.out.2) (by have := HBS.out; have := HO3.out.size; omega)
          have hwb : own bw = .win id := HA3.out.ow ⟨id, bw, ts⟩ (by simp)
          have HE5 := Lib.hid (HE3.out.upd HW5.out (by simp; intro he; have := HOEB.out.1; rw [he, hwb] at this; cases this))
          have HMB5 := Lib.hid (HMB.out.upd HW5.out (by simp; intro he; have := HOEB.out.2; rw [he, hwb] at this; cases this))
          obtain ⟨o5, ho5⟩ : ∃ o5, o5 = (fun b => if b = t.p then Tag.tak id t.k t.n else if b ∈ t.x then .aux id t.k t.n else own b) := ⟨_, rfl⟩
          have HA5 := Lib.hid (show AggAt w5 base a o5 ⟨b0, b1, l1 ++ ⟨id, bw, ts ++ t :: []⟩ :: l2, gs, bd⟩ by rw [ho5]; exact hA5)
          have hsz3 := HO3.out.size
          have HX5 := Lib.hid (show Ext w.heap.size own o5 from HX3.out.trans (m := w3.heap.size) (fun b hb => by
            rw [ho5]
            show (if b = t.p then Tag.tak id t.k t.n else if b ∈ t.x then .aux id t.k t.n else own b) = own b
            rw [if_neg (by rw [htd]; dsimp only; omega), if_neg (fun hm => by rw [htd] at hm; have := (HPX.out.2 b hm).1; omega)]) hsz3)
          have HO5 := Lib.hid (HO3.out.trans (own' := own) ⟨_, HW5.out, fun b hb => by simp at hb; rw [hb, hwb]; simp⟩ HX3.out)
          have HTN := Lib.hid (show t.tk.ok N by rw [htd]; exact ok_mono (fresh_ok _) (Nat.zero_le _))
          have HTKEY := Lib.hid (show t.key = (e.kind, e.name) by rw [htd]; rfl)
          have HPT := Lib.hid (show updT e (ts.map fun t => (t.key, t.tk)) = (ts.map fun t => (t.key, t.tk)) ++ (t.key, t.tk.take e) :: ([] : List TR).map fun t => (t.key, t.tk) by
            rw [updT_new e _ (by rw [List.map_map]; exact hnt), htd]
            rfl)
          clear hA5 ho5 htd hbn hbwl hpx1 hdr hM5 hU5 hwb hsz3
          refine mix_tail (by kernel_rfl) (by kernel_rfl) ?_
          simp only [List.drop_succ_cons, List.drop_zero]
          go_wp2_with fail
          clear hrun5
          have hmz : (⟨id, bw, ts ++ t :: []⟩ : WR) ∈ l1 ++ ⟨id, bw, ts ++ t :: []⟩ :: l2 := by simp
          have HWZ := Lib.hid (HA5.out.wi _ hmz)
          have HTZ := Lib.hid (HA5.out.tk _ hmz t (by simp))
          have hkz := HWZ.out.nodup
          rw [ents_keys] at hkz
          have htn : t.key ∉ (ts).map TR.key := fun hm => by
            obtain ⟨s, hs, he⟩ := List.mem_map.1 hm
            exact split_ne TR.key hkz s (.inl hs) he
          have hlz : ∀ q : Wd [] w5, (Instr.lookup TMW (.map (some bw)) (.agg #[.int .i64 e.kind, .string e.name]) false).run Tryz.prog q.v = .ok t.val q.v := fun q => by
            have h := run_lookup (P := Tryz.prog) klM Tryz.underlying88 (HWZ.out.upd q.h (by simp)) (e.kind, e.name) false (zeroTk q.v)
            rw [show look (e.kind, e.name) (⟨id, bw, ts ++ t :: []⟩ : WR).ents = some t.val by rw [← HTKEY.out]; exact look_at TR.key TR.val _ _ _ htn] at h
            simp only [Option.getD_some, Bool.false_eq_true, if_false] at h
            exact h
          have m0 := fun q : Wd [] w5 => q.h.cell (HMB5.out.cell (j := 0) rfl) (by simp)
          have mm1 := fun q : Wd [] w5 => q.h.cell (HMB5.out.cell (j := 1) rfl) (by simp)
          have e0 := fun q : Wd [] w5 => q.h.cell (HE5.out.cell (j := 0) rfl) (by simp)
          have e1 := fun q : Wd [] w5 => q.h.cell (HE5.out.cell (j := 1) rfl) (by simp)
          have e2 := fun q : Wd [] w5 => q.h.cell (HE5.out.cell (j := 2) rfl) (by simp)
          have e3 := fun q : Wd [] w5 => q.h.cell (HE5.out.cell (j := 3) rfl) (by simp)
          have e4 := fun q : Wd [] w5 => q.h.cell (HE5.out.cell (j := 4) rfl) (by simp)
          have e5 := fun q : Wd [] w5 => q.h.cell (HE5.out.cell (j := 5) rfl) (by simp)
          have e6 := fun q : Wd [] w5 => q.h.cell (HE5.out.cell (j := 6) rfl) (by simp)
          have e7 := fun q : Wd [] w5 => q.h.cell (HE5.out.cell (j := 7) rfl) (by simp)
          have hbz : base ≤ w5.heap.size := by have := HBS.out; have := HO5.out.size; omega
          have HTC := Lib.hid (take_calls base t.p N t.x t.tk e w5.drew (HTZ.out.1.upd (Upd.refl [] w5).drew (by simp) (by simp)) HTN.out hN2 hbz HV.out HRT.out)
          have HFIN := Lib.hid (show ∀ w6 x', TakAt w6 base t.p x' (t.tk.take e) → (∀ b ∈ x', b ∈ t.x ∨ w5.heap.size ≤ b) → Upd (t.p :: t.x) w5 w6 → ApQ w base a own ⟨b0, b1, l1 ++ ⟨id, bw, ts⟩ :: l2, gs, bd⟩ id e w6 from fun w6 x' g1 g2 g3 => by
            have hA6 := AggAt.setT HA5.out g1 (by rw [take_kind]; exact HTZ.out.2) (take_F _ _) g3 g2 hbz
            have ho := HA5.out.ot _ hmz t (by simp)
            refine ⟨_, _, hA6, ?_, rfl, rfl, ?_, ?_⟩
            · rw [HAP.out, HPL.out, HPT.out]
              unfold AgL.pl
              simp [WR.pl, TR.key]
            · refine HX5.out.trans (m := w5.heap.size) (fun b hb => ?_) HO5.out.size
              show (if b ∈ x' then Tag.aux id t.k t.n else o5 b) = o5 b
              by_cases hm : b ∈ x'
              · rw [if_pos hm]
                rcases g2 b hm with h | h
                · exact (ho.2 b h).symm
                · omega
              · exact if_neg hm
            · refine HO5.out.trans (own' := o5) ⟨_, g3, fun b hb => ?_⟩ HX5.out
              rcases List.mem_cons.1 hb with rfl | hb
              · rw [ho.1]; simp
              · rw [ho.2 b hb]; simp)
          clear hmz hkz htn hbz
          obtain ⟨tk, htk0⟩ : ∃ tk, tk = t.tk := ⟨_, rfl⟩
          obtain ⟨tp, htp0⟩ : ∃ tp, tp = t.p := ⟨_, rfl⟩
          unfold TR.val at hlz
          rw [← htk0, ← htp0] at hlz
          rw [← htk0, ← htp0] at HTC HFIN
          clear htk0 htp0
          cases tk
          all_goals
            simp only [TK.ty] at hlz
            refine mix_start (n := 5) 4 (fun w' => ∃ p : Wd [] w5, w' = p.v) (by kernel_rfl) (by kernel_rfl) ?_
            refine mix_quiet [true, true, true, true] 1 rfl (by kernel_rfl) (by kernel_rfl) (by kernel_rfl) (by kernel_rfl) ⟨⟨_, (Upd.refl [] w5).drew⟩, rfl⟩ ?_
            simp only [maskL]
            repeat (go_big_quiet_step (fail))
            refine wpQuiet_nil ?_
            clear m0 mm1 e0 e1 e2 e3 e4 e5 e6 e7 hlz
            refine mix_tail (by kernel_rfl) (by kernel_rfl) ?_
            simp only [List.drop_succ_cons, List.drop_zero]
            go_wp2_with fail
            refine HTC.out.mono ?_
            rintro y w6 ⟨rfl, x', g1, g2, g3⟩
            have HRES := Lib.hid (HFIN.out w6 x' g1 g2 ((Upd.refl _ w5).drew.then g3))
            clear g1 g2 g3
            go_wp2
            go_ret
            exact ⟨rfl, HRES.out⟩
        · subst hts
          have hlk3 := run_lookup (P := Tryz.prog) klM Tryz.underlying88 HWI.out (e.kind, e.name) false (zeroTk _)
          rw [show look (e.kind, e.name) (⟨id, bw, m1 ++ t :: m2⟩ : WR).ents = some t.val by rw [← htk]; rw [← htk] at hm1; exact look_at TR.key TR.val _ _ _ hm1] at hlk3
          simp only [Option.getD_some, Bool.false_eq_true, if_false] at hlk3
          unfold kvM at hlk3
          dsimp only at hlk3
          unfold TR.val at hlk3
          go_wp2_with fail
          clear e0 e1 hlk3 hnil
          generalize w2.heap.size = mb at *
          generalize w2.alloc (.cells #[.int .i64 e.kind, .string e.name] TMet) = w5 at *
          have HA5 := Lib.hid HA3.out
          have HE5 := Lib.hid HE3.out
          have HMB5 := Lib.hid HMB.out
          have HX5 := Lib.hid HX3.out
          have HO5 := Lib.hid HO3.out
          have HTN := Lib.hid (HN2.out t (by simp))
          have HTKEY := Lib.hid htk
          have HPT := Lib.hid (show updT e ((m1 ++ t :: m2).map fun t => (t.key, t.tk)) = (m1.map fun t => (t.key, t.tk)) ++ (t.key, t.tk.take e) :: m2.map fun t => (t.key, t.tk) by
            rw [List.map_append, List.map_cons, htk]
            exact updT_at e _ _ _ (by rw [List.map_map]; exact hm1))
          clear htk hm1 HA3 HE3 HMB HX3 HO3
          have hmz : (⟨id, bw, m1 ++ t :: m2⟩ : WR) ∈ l1 ++ ⟨id, bw, m1 ++ t :: m2⟩ :: l2 := by simp
          have HWZ := Lib.hid (HA5.out.wi _ hmz)
          have HTZ := Lib.hid (HA5.out.tk _ hmz t (by simp))
          have hkz := HWZ.out.nodup
          rw [ents_keys] at hkz
          have htn : t.key ∉ (m1).map TR.key := fun hm => by
            obtain ⟨s, hs, he⟩ := List.mem_map.1 hm
            exact split_ne TR.key hkz s (.inl hs) he
          have hlz : ∀ q : Wd [] w5, (Instr.lookup TMW (.map (some bw)) (.agg #[.int .i64 e.kind, .string e.name]) false).run Tryz.prog q.v = .ok t.val q.v := fun q => by
            have h := run_lookup (P := Tryz.prog) klM Tryz.underlying88 (HWZ.out.upd q.h (by simp)) (e.kind, e.name) false (zeroTk q.v)
            rw [show look (e.kind, e.name) (⟨id, bw, m1 ++ t :: m2⟩ : WR).ents = some t.val by rw [← HTKEY.out]; exact look_at TR.key TR.val _ _ _ htn] at h
            simp only [Option.getD_some, Bool.false_eq_true, if_false] at h
            exact h
          have m0 := fun q : Wd [] w5 => q.h.cell (HMB5.out.cell (j := 0) rfl) (by simp)
          have mm1 := fun q : Wd [] w5 => q.h.cell (HMB5.out.cell (j := 1) rfl) (by simp)
          have e0 := fun q : Wd [] w5 => q.h.cell (HE5.out.cell (j := 0) rfl) (by simp)
          have e1 := fun q : Wd [] w5 => q.h.cell (HE5.out.cell (j := 1) rfl) (by simp)
          have e2 := fun q : Wd [] w5 => q.h.cell (HE5.out.cell (j := 2) rfl) (by simp)
          have e3 := fun q : Wd [] w5 => q.h.cell (HE5.out.cell (j := 3) rfl) (by simp)
          have e4 := fun q : Wd [] w5 => q.h.cell (HE5.out.cell (j := 4) rfl) (by simp)
          have e5 := fun q : Wd [] w5 => q.h.cell (HE5.out.cell (j := 5) rfl) (by simp)
          have e6 := fun q : Wd [] w5 => q.h.cell (HE5.out.cell (j := 6) rfl) (by simp)
          have e7 := fun q : Wd [] w5 => q.h.cell (HE5.out.cell (j := 7) rfl) (by simp)
          have hbz : base ≤ w5.heap.size := by have := HBS.out; have := HO5.out.size; omega
          have HTC := Lib.hid (take_calls base t.p N t.x t.tk e w5.drew (HTZ.out.1.upd (Upd.refl [] w5).drew (by simp) (by simp)) HTN.out hN2 hbz HV.out HRT.out)
          have HFIN := Lib.hid (show ∀ w6 x', TakAt w6 base t.p x' (t.tk.take e) → (∀ b ∈ x', b ∈ t.x ∨ w5.heap.size ≤ b) → Upd (t.p :: t.x) w5 w6 → ApQ w base a own ⟨b0, b1, l1 ++ ⟨id, bw, m1 ++ t :: m2⟩ :: l2, gs, bd⟩ id e w6 from fun w6 x' g1 g2 g3 => by
            have hA6 := AggAt.setT HA5.out g1 (by rw [take_kind]; exact HTZ.out.2) (take_F _ _) g3 g2 hbz
            have ho := HA5.out.ot _ hmz t (by simp)
            refine ⟨_, _, hA6, ?_, rfl, rfl, ?_, ?_⟩
            · rw [HAP.out, HPL.out, HPT.out]
              unfold AgL.pl
              simp [WR.pl, TR.key]
            · refine HX5.out.trans (m := w5.heap.size) (fun b hb => ?_) HO5.out.size
              show (if b ∈ x' then Tag.aux id t.k t.n else own b) = own b
              by_cases hm : b ∈ x'
              · rw [if_pos hm]
                rcases g2 b hm with h | h
                · exact (ho.2 b h).symm
                · omega
              · exact if_neg hm
            · refine HO5.out.trans (own' := own) ⟨_, g3, fun b hb => ?_⟩ HX5.out
              rcases List.mem_cons.1 hb with rfl | hb
              · rw [ho.1]; simp
              · rw [ho.2 b hb]; simp)
          clear hmz hkz htn hbz
          obtain ⟨tk, htk0⟩ : ∃ tk, tk = t.tk := ⟨_, rfl⟩
          obtain ⟨tp, htp0⟩ : ∃ tp, tp = t.p := ⟨_, rfl⟩
          unfold TR.val at hlz
          rw [← htk0, ← htp0] at hlz
          rw [← htk0, ← htp0] at HTC HFIN
          clear htk0 htp0
          cases tk
          all_goals
            simp only [TK.ty] at hlz
            refine mix_start (n := 5) 4 (fun w' => ∃ p : Wd [] w5, w' = p.v) (by kernel_rfl) (by kernel_rfl) ?_
            refine mix_quiet [true, true, true, true] 1 rfl (by kernel_rfl) (by kernel_rfl) (by kernel_rfl) (by kernel_rfl) ⟨⟨_, (Upd.refl [] w5).drew⟩, rfl⟩ ?_
            simp only [maskL]
            repeat (go_big_quiet_step (fail))
            refine wpQuiet_nil ?_
            clear m0 mm1 e0 e1 e2 e3 e4 e5 e6 e7 hlz
            refine mix_tail (by kernel_rfl) (by kernel_rfl) ?_
            simp only [List.drop_succ_cons, List.drop_zero]
            go_wp2_with fail
            refine HTC.out.mono ?_
            rintro y w6 ⟨rfl, x', g1, g2, g3⟩
            have HRES := Lib.hid (HFIN.out w6 x' g1 g2 ((Upd.refl _ w5).drew.then g3))
            clear g1 g2 g3
            go_wp2
            go_ret
            exact ⟨rfl, HRES.out⟩
  · have dne : (ck != 0) = true := by simpa using hc
    obtain rfl : R = ck := by rw [HR.out, HC.out]; unfold acode; rw [if_neg (by rw [← HC.out]; exact hc)]
    have hap := HREJ.out hc
    clear HREJ HR HC hc
    go_wp2
    go_ret
    exact ⟨rfl, hap⟩
end Go.Proofs.YthbjpoiolmlpmaaGreatDoor
