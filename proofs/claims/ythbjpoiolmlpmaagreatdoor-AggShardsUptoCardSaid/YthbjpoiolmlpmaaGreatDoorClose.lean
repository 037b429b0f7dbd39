/- agg.Close, walked. -/
import Derived.Test.YthbjpoiolmlpmaaGreatDoorCls
set_option linter.unusedVariables false
set_option linter.unusedSimpArgs false
namespace Go.Proofs.YthbjpoiolmlpmaaGreatDoor
open Go.RowKit
theorem drop_ge {l : List Int} (h : l.Pairwise (· < ·)) {j : Nat} {k : Int} (hj : l[j]? = some k) : ∀ i ∈ l.drop j, k ≤ i := by
  intro i hi
  have hja := (List.getElem?_eq_some_iff.1 hj).1
  have e : l.drop j = k :: l.drop (j + 1) := by rw [List.drop_eq_getElem_cons hja, (List.getElem?_eq_some_iff.1 hj).2]
  have h2 := List.Pairwise.sublist (List.drop_sublist j l) h
  rw [e] at h2 hi
  rw [List.pairwise_cons] at h2
  rcases List.mem_cons.1 hi with rfl | hi
  · omega
  · have := h2.1 i hi
    omega
theorem ClsInv.pre {w : World} {base a M : Nat} {own : Nat → Tag} {b0 b1 : Nat} {A : AgE} {id : Int} {ids : List Int} {vi va : Value} {j : Nat} {wr : World} {cw : List WCL} {own' : Nat → Tag} {ws : List WR} {gs : List (ByteArray × Int)} {g' : GV}
    (h : ClsInv w base a own b0 b1 A.E A.g id ids vi va j wr cw own' ws gs g') (ho : A.ok M) (hi : OpenIds A.E ids) (hM : M ≤ 4194303) :
    (∀ r ∈ ws, (∀ t ∈ r.ts, t.tk.ok M) ∧ r.ts.length ≤ 4194304) ∧ ∀ x v, gl x gs = some v → v.natAbs ≤ 100000000000000000000000000 := by
  obtain ⟨c, hc, hg⟩ := ho.gs
  refine ⟨fun r hr => ?_, fun x v hv => ?_⟩
  · have hm := h.me r hr
    refine ⟨fun t ht => ?_, ?_⟩
    · have h1 := hm.tk (t.key, t.tk) (List.mem_map_of_mem (f := fun t : TR => (t.key, t.tk)) ht)
      simp only at h1
      rw [h1]
      have := List.length_filter_le (inM r.id t.key) A.E
      exact ok_mono (tkOf_ok ho.ev _ _) (by omega)
    · have := nodup_le (m := A.E.map fun p => met p.2) hm.tnd (fun m hm2 => by
        obtain ⟨p, hp, e⟩ := (hm.mets m).1 hm2
        rw [← (inM_iff.1 e).2]
        exact List.mem_map_of_mem (f := fun p : KE => met p.2) hp)
      have e : r.pl.2.length = r.ts.length := by show (List.map _ _).length = _; simp
      simp at this
      omega
  · rw [h.fg] at hv
    have h1 := tells_g ho.ev h.te hg x v hv
    have h2 := cntW_sum A.E (ids.take j) (List.Sublist.nodup (List.take_sublist _ _) (hi.rise.imp (fun h => by omega)))
    have h3 := List.length_filter_le (fun p : KE => decide (p.1 ∈ ids.take j)) A.E
    refine Nat.le_trans h1 (Nat.le_trans (Nat.mul_le_mul_right _ (show c + _ ≤ 4194303 by omega)) (by decide))
/-- Behind tallies: the windows' row, the shard's own block, its map. -/
theorem ClsInv.tal {w : World} {base a : Nat} {own : Nat → Tag} {b0 b1 : Nat} {E : List KE} {g : GV} {id : Int} {ids : List Int} {vi va : Value} {j : Nat} {wr : World} {cw : List WCL} {own' : Nat → Tag} {gs : List (ByteArray × Int)} {g' : GV} {l1 l2 : List WR} {r : WR}
    (h : ClsInv w base a own b0 b1 E g id ids vi va j wr cw own' (l1 ++ r :: l2) gs g') (hlo : ∀ b, own b ≠ .no → b < w.heap.size)
    {wa : World} {tv : Value} {dn : List (TR × TC)} {gs2 : List (ByteArray × Int)} {S : List Nat} (ht : TalOut wr base a b0 b1 r.ts gs id tv wa dn gs2 S) :
    wa.ownsRow w.heap.size TWin 2 va cw.length (cw.flatMap WCL.cells) ∧ MapAt wa (Value.int .i64) b0 (l1.map wE ++ (r.id, .map (some r.b)) :: l2.map wE) ∧ b0 < w.heap.size ∧ a < w.heap.size := by
  have hr0 : r ∈ l1 ++ r :: l2 := by simp
  have hlt : ∀ b, own' b ≠ .no → b < w.heap.size := fun b hb => hlo b (by rw [← h.sub b hb]; exact hb)
  have hb1 : own' b1 = .ga := h.ag.o1
  have hb0 : own' b0 = .op := h.ag.o0
  have hot := h.ag.ot r hr0
  have hS : ∀ b ∈ S, own' b = .ga ∨ (own' b).win? = some r.id := fun b hb => by
    rcases ht.sS b hb with e | ⟨t, ht1, ht2⟩
    · rw [e]; exact .inl hb1
    · rw [(hot t ht1).2 b ht2]; exact .inr rfl
  refine ⟨own_upd h.wi.row ht.up (fun g hg hm => ?_), ?_, hlt b0 (by rw [hb0]; simp), hlt a (by rw [h.ag.oa]; simp)⟩
  · have h1 := own_low h.wi.row g (by simp [hg])
    have h2 := hlt g (fun e => by rcases hS g hm with k | k <;> rw [e] at k <;> cases k)
    omega
  · have h1 : MapAt wr (Value.int .i64) b0 ((l1 ++ r :: l2).map wE) := h.ag.op
    rw [List.map_append, List.map_cons] at h1
    exact h1.upd ht.up (fun hm => by rcases hS b0 hm with k | k <;> rw [hb0] at k <;> cases k)
set_option maxHeartbeats 4000000 in
set_option maxRecDepth 20000 in
theorem shClose_calls (base a M : Nat) (O : Nat → Prop) (A : AgE) (id : Int) (w : World) (h : ShAt w base a O A M) (hM : M ≤ 4194303) (hbase : base ≤ w.heap.size) :
    Calls Tryz.prog 20 #[.pointer (some ⟨a, 0, none⟩), .int .i64 id] w fun x w' => ∃ v cw A', x = .returned v ∧ Closes A id (cw.map WCL.pl) A' ∧ WinsAt w' w.heap.size base v cw ∧ ∃ O', ShAt w' base a O' A' M ∧ (∀ b, O' b → O b) ∧ (∀ b ∈ cw.flatMap WCL.bl, ¬ O' b) ∧ UpdP O w w' := by
  obtain ⟨own, L, h1, h2⟩ := h
  have hids := h2.ids
  obtain ⟨b0, b1, ws, gs, bd⟩ := L
  have hbd : bd = A.bd := h2.bd
  subst hbd
  have HM := Lib.hid (made_calls h2.ag.hb)
  have HS := Lib.hid h2
  have HO := Lib.hid h1
  have HIDS := Lib.hid hids
  obtain ⟨abd, habd⟩ : ∃ abd, abd = A.bd := ⟨_, rfl⟩
  have c2 := h2.ag.hb.cell (j := 2) rfl
  have f2 := h2.ag.hb.free 2
  dsimp only at c2
  rw [← habd] at c2
  have HABD := Lib.hid habd
  clear h1 h2 hids habd
  go_enter Tryz.func20, Tryz.ntmps20
  go_wp2_with fail
  refine HM.out.mono ?_
  rintro x w' ⟨rfl, rfl⟩
  by_cases hb : id ≤ abd
  · have db : decide (id ≤ abd) = true := decide_eq_true hb
    have HBN := Lib.hid hb
    clear hb
    go_wp2
    go_ret
    refine ⟨_, [], A, rfl, ?_, ⟨World.ownsRow_nil _ _ _ _, (fun c hc => by cases hc), .nil⟩, O, ⟨own, _, HO.out, (HS.out.ag.upd0 (by repeat (first | exact Upd.refl _ _ | assumption | apply Upd.drewN | apply Upd.drew | apply Upd.alloc))), HS.out.me, HS.out.gs, HS.out.bd, HS.out.ok⟩, fun b hb => hb, (fun b hb => by cases hb), UpdP.of0 (by repeat (first | exact Upd.refl _ _ | assumption | apply Upd.drewN | apply Upd.drew | apply Upd.alloc))⟩
    unfold Closes
    rw [if_pos (by rw [← HABD.out]; exact HBN.out)]
    exact ⟨rfl, rfl⟩
  · have db : decide (id ≤ abd) = false := decide_eq_false hb
    have HBN := Lib.hid hb
    clear hb
    obtain ⟨w1, hw1⟩ : ∃ w1, w1 = w'.setCell ⟨a, 2, none⟩ (.int .i64 id) := ⟨_, rfl⟩
    have hA1 := HS.out.ag.setB id
    have hU1 : Upd [a] w' (w'.setCell ⟨a, 2, none⟩ (.int .i64 id)) := (Upd.refl [a] w').setCell (p := ⟨a, 2, none⟩) (.inl (by simp)) _
    rw [← hw1] at hA1 hU1
    dsimp only at hA1
    have HA1 := Lib.hid hA1
    have HU1 := Lib.hid hU1
    have HOP := Lib.hid (open_calls base a own ⟨b0, b1, ws, gs, id⟩ w1 hA1 (by have := HIDS.out.2; dsimp only at this ⊢; omega))
    clear hA1 hU1
    go_wp2_with fail
    rw [← hw1]
    clear hw1
    refine HOP.out.mono ?_
    rintro e w2 ⟨vi, rfl, hvi, hU2⟩
    obtain ⟨ids, hids⟩ : ∃ ids, ids = sortI (ws.map WR.id) := ⟨_, rfl⟩
    have hlen : ids.length = ws.length := by rw [hids, sortI_len, List.length_map]
    have hvi2 : w2.ownsRow w1.heap.size 2 1 vi ids.length (ids.map (Value.int .i64)) := by rw [hlen, hids]; exact hvi
    obtain ⟨Ai, ci, rfl, _, _, _⟩ := own_shape hvi2
    have HI0 := Lib.hid (show ClsInv w1 base a own b0 b1 A.E A.g id ids (.slice Ai ids.length ci) nilV 0 w2 [] own ws gs A.g from
      ⟨Nat.zero_le _, HA1.out.upd0 hU2, by rw [List.drop_zero, hids]; exact (List.mergeSort_perm _ _).symm, fun r hr => HS.out.me.t (List.mem_map_of_mem hr), HS.out.gs, .nil _, (fun i hi => by simp at hi), ⟨World.ownsRow_nil _ _ _ _, (fun c hc => by cases hc), .nil⟩, (fun b hb => by cases hb), hvi2, fun b _ => rfl, UpdO.of0 hU2⟩)
    have HOI := Lib.hid (show OpenIds A.E ids from by rw [hids]; exact HIDS.out.1)
    have HLEN := Lib.hid (show ids.length ≤ 4194303 from by have := HIDS.out.2; rw [hlen]; omega)
    have hlx : ids.length < 9223372036854775808 := by have := HLEN.out; omega
    have HFIN := Lib.hid (show ∀ va j wr cw own' ws' gs' g', ClsInv w1 base a own b0 b1 A.E A.g id ids (.slice Ai ids.length ci) va j wr cw own' ws' gs' g' → (∀ i ∈ ids.drop j, id < i) →
        ∃ A', Closes A id (cw.map WCL.pl) A' ∧ WinsAt wr w'.heap.size base va cw ∧ ∃ O', ShAt wr base a O' A' M ∧ (∀ b, O' b → O b) ∧ (∀ b ∈ cw.flatMap WCL.bl, ¬ O' b) ∧ UpdP O w' wr from fun va j wr cw own' ws' gs' g' hI hd => by
      have hlo := HS.out.ag.lo
      obtain ⟨A', k1, k2, O', k3, k4, k5, k6⟩ := hI.fin (w := w') HS.out.ok HOI.out hd (by rw [← HABD.out]; have := HBN.out; omega) HU1.out.size ⟨[a], HU1.out, fun b hb => by simp at hb; rw [hb, HS.out.ag.oa]; simp⟩ hbase (fun b hb => (hlo b hb).2)
      refine ⟨A', k1, k2, O', k3, fun b hb => (HO.out b).2 (k4 b hb), k5, ?_⟩
      obtain ⟨S, g1, g2⟩ := k6
      exact ⟨S, g1, fun b hb => (HO.out b).2 (g2 b hb)⟩)
    have HLO := Lib.hid (show ∀ b, own b ≠ .no → b < w1.heap.size from fun b hb => by have := (HA1.out.lo b hb).2; exact this)
    have HW1 := Lib.hid (show base ≤ w1.heap.size by have := HU1.out.size; omega)
    clear hvi hU2 hids hlen hvi2 HOP c2 f2 db
    go_wp2_with fail
    go_loopw [5, 26] (fun va vj wr => ∃ (j : Nat) (cw : List WCL) (own' : Nat → Tag) (ws' : List WR) (gs' : List (ByteArray × Int)) (g' : GV), vj = .int .i64 (j : Int) ∧ ClsInv w1 base a own b0 b1 A.E A.g id ids (.slice Ai ids.length ci) va j wr cw own' ws' gs' g') (fun _ vj _ => ids.length - (intOf vj).toNat)
    case atStart => exact ⟨0, [], own, ws, gs, A.g, rfl, HI0.out⟩
    case round =>
      obtain ⟨j, cw, own', ws', gs', g', rfl, hI⟩ := hrel
      obtain ⟨Av, cv, rfl, _, _, _⟩ := own_shape hI.wi.row
      have HI := Lib.hid hI
      by_cases hj : j < ids.length
      · obtain ⟨k, hk⟩ : ∃ k, ids[j]? = some k := ⟨ids[j], List.getElem?_eq_getElem hj⟩
        obtain ⟨gi, rfl, hci, _⟩ := own_cell hI.fv j (.int .i64 k) (by rw [List.getElem?_map, hk]; rfl)
        have HK := Lib.hid hk
        have dj : decide (j < ids.length) = true := decide_eq_true hj
        clear hI hk
        by_cases hki : id < k
        · have dk : decide (id < k) = true := decide_eq_true hki
          have HKI := Lib.hid hki
          clear hki
          go_wp2
          go_ret
          obtain ⟨A', e1, e2, e3⟩ := HFIN.out _ _ _ _ _ _ _ _ HI.out (fun i hi => by have := drop_ge HOI.out.rise HK.out i hi; have := HKI.out; omega)
          exact ⟨_, cw, A', rfl, e1, e2, e3⟩
        · have dk : decide (id < k) = false := decide_eq_false hki
          have HKI := Lib.hid (show k ≤ id by omega)
          clear hki
          have hkd : k ∈ ws'.map WR.id := HI.out.fi.mem_iff.2 (by rw [List.drop_eq_getElem_cons hj, (List.getElem?_eq_some_iff.1 HK.out).2]; simp)
          rcases find_split WR.id k ws' with hno | ⟨l1, r, l2, rfl, hrk, hl1⟩
          · exact absurd hkd hno
          obtain ⟨rid, rb, rts⟩ := r
          dsimp only at hrk
          obtain rfl : rid = k := hrk
          have hlk := run_lookup (P := Tryz.prog) klI Tryz.underlying73 HI.out.ag.op rid false (zeroMW wr)
          rw [show look rid (⟨b0, b1, l1 ++ ⟨rid, rb, rts⟩ :: l2, gs', id⟩ : AgL).opn = some (.map (some rb)) from look_at WR.id (fun r => Value.map (some r.b)) l1 l2 ⟨rid, rb, rts⟩ hl1] at hlk
          simp only [Option.getD_some, Bool.false_eq_true, if_false] at hlk
          have c0 := HI.out.ag.hb.cell (j := 0) rfl
          obtain ⟨p1, p2⟩ := HI.out.pre HS.out.ok HOI.out hM
          have hmr : (⟨rid, rb, rts⟩ : WR) ∈ l1 ++ ⟨rid, rb, rts⟩ :: l2 := by simp
          have HTA := Lib.hid (tallies_calls base a M own' b0 b1 l1 l2 rid rb rts gs' id wr HI.out.ag (p1 _ hmr).1 (by omega) (p1 _ hmr).2 p2 (by have := HI.out.up.size; have := HW1.out; omega))
          clear hkd p1 p2 hmr hl1
          go_wp2_with fail
          refine HTA.out.mono ?_
          rintro e wa ⟨tv, dn, gs2, S, rfl, hT⟩
          obtain ⟨At, ct, rfl, _, _, _⟩ := own_shape hT.row
          have HT := Lib.hid hT
          obtain ⟨q1, q2, q3, q4⟩ := HI.out.tal HLO.out hT
          have hal := (Upd.refl [] wa).alloc (.cells #[.int .i64 rid, .slice At dn.length ct] TWin)
          have HRO := Lib.hid (own_upd q1 hal (by simp))
          have HMP := Lib.hid (q2.upd hal (by simp))
          have HBA := Lib.hid (hT.hb.upd hal (by simp))
          have HNB := Lib.hid (HB.new wa TWin [.int .i64 rid, .slice At dn.length ct])
          have HQ := Lib.hid (And.intro q3 q4)
          have HSB := Lib.hid (show w1.heap.size ≤ (wa.alloc (.cells #[.int .i64 rid, .slice At dn.length ct] TWin)).heap.size from by have h1 := HI.out.up.size; have h2 := hT.up.size; have h3 := hal.size; omega)
          have hcw : cw.length = j := by
            have h1 := congrArg List.length HI.out.te.ids
            have h2 := HI.out.fj
            simp at h1
            omega
          have HCW := Lib.hid hcw
          clear hT hlk c0 q1 q2 q3 q4 hal hcw
          go_wp2_with (at_builtin; go_must (refine wp_append1 w1.heap.size 23 50 _ 2 32 (.slice Av cw.length cv) cw.length (cw.flatMap WCL.cells) [.int .i64 rid, .slice At dn.length ct] _ rfl rfl (by kernel_rfl) infoWin rfl (by decide) (by decide) rfl rfl rfl (by simp [Value.oneCell']) HRO.out HNB.out HSB.out (by have := HCW.out; have := HLEN.out; omega) ?_))
          intro v1 w4 hown4 hU4 hat4
          obtain ⟨B, cB, rfl, _, _, _⟩ := own_shape hown4
          have hva := own_low HRO.out
          have c0 := (HBA.out.upd hU4 (fun hm => by have := hva a hm; have := HQ.out.2; omega)).cell (j := 0) rfl
          obtain ⟨w5, hdel, hM5, hU5⟩ := run_delete (ty := 0) klI Tryz.underlying73 (HMP.out.upd hU4 (fun hm => by have := hva b0 hm; have := HQ.out.1; omega))
          have HNX := Lib.hid (HI.out.next (r := ⟨rid, rb, rts⟩) HLO.out HW1.out HK.out HKI.out HT.out hown4 (((Upd.refl [] wa).alloc _).of0.then hU4) (by rw [List.map_append]; exact hM5) hU5)
          clear hown4 hU4 hat4 hM5 hU5 hva
          go_wp2_with fail
          go_roundw
          case rel =>
            obtain ⟨g2, hn⟩ := HNX.out
            exact ⟨j + 1, _, _, _, _, g2, rfl, hn⟩
          case measure =>
            simp only [intOf]
            omega
      · have dj : decide (j < ids.length) = false := decide_eq_false hj
        have HJ := Lib.hid hj
        clear hI hj
        go_wp2
        go_ret
        obtain ⟨A', e1, e2, e3⟩ := HFIN.out _ _ _ _ _ _ _ _ HI.out (fun i hi => by rw [List.drop_eq_nil_of_le (by have := HJ.out; omega)] at hi; cases hi)
        exact ⟨_, cw, A', rfl, e1, e2, e3⟩
end Go.Proofs.YthbjpoiolmlpmaaGreatDoor
