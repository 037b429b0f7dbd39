/- agg.tallies. -/
import Derived.Test.YthbjpoiolmlpmaaGreatDoorTalL
set_option linter.unusedVariables false
set_option linter.unusedSimpArgs false
namespace Go.Proofs.YthbjpoiolmlpmaaGreatDoor
open Go.RowKit
/-- What tallies gives. -/
structure TalOut (w : World) (base a b0 b1 : Nat) (ts : List TR) (gs : List (ByteArray × Int)) (bd : Int) (v : Value) (w' : World) (dn : List (TR × TC)) (gs' : List (ByteArray × Int)) (S : List Nat) : Prop where
  pm : (dn.map (·.1)).Perm ts
  rise : (dn.map fun q => ((q.2.k, q.2.n) : Met)).Pairwise fun a b => ltM a b = true
  row : w'.ownsRow w.heap.size TTal 9 v dn.length ((dn.map (·.2)).flatMap TC.cells)
  tl : ∀ q ∈ dn, TlOf w' base w.heap.size gs q
  nd : (dn.flatMap fun q => q.2.bl).Nodup
  hb : HB w' a TAgg [.map (some b0), .map (some b1), .int .i64 bd]
  ga : MapAt w' Value.string b1 (gs'.map fun g => (g.1, wide g.2))
  gl : ∀ x, gl x gs' = gAfter gs (dn.map (·.1)) x
  up : Upd S w w'
  sS : ∀ b ∈ S, b = b1 ∨ ∃ t ∈ ts, b ∈ t.x
set_option maxHeartbeats 4000000 in
set_option maxRecDepth 20000 in
theorem tallies_calls (base a N : Nat) (own : Nat → Tag) (b0 b1 : Nat) (la lb : List WR) (id : Int) (bw : Nat) (ts : List TR) (gs : List (ByteArray × Int)) (bd : Int) (w : World) (h : AggAt w base a own ⟨b0, b1, la ++ ⟨id, bw, ts⟩ :: lb, gs, bd⟩)
    (hN : ∀ t ∈ ts, t.tk.ok N) (hN2 : N ≤ 4194304) (hl : ts.length ≤ 4194304) (hg : ∀ x v, gl x gs = some v → v.natAbs ≤ 100000000000000000000000000) (hbase : base ≤ w.heap.size) :
    Calls Tryz.prog 40 #[.pointer (some ⟨a, 0, none⟩), .map (some bw)] w fun e w' => ∃ (v : Value) (dn : List (TR × TC)) (gs' : List (ByteArray × Int)) (S : List Nat), e = .returned v ∧ TalOut w base a b0 b1 ts gs bd v w' dn gs' S := by
  have hmem : (⟨id, bw, ts⟩ : WR) ∈ la ++ ⟨id, bw, ts⟩ :: lb := by simp
  have hM : MapAt w kvM bw (ts.map tE) := h.wi _ hmem
  have hkeys : (ts.map TR.key).Nodup := by
    have := hM.nodup
    rwa [List.map_map] at this
  have HKEYS := Lib.hid hkeys
  clear hkeys
  have hmlt := hM.lt
  have hlo := (h.lo bw (by rw [show own bw = _ from h.ow _ hmem]; simp)).1
  obtain ⟨W2, hrun, hR, hU3, hs3⟩ := run_range (P := Tryz.prog) Tryz.underlying88 hM
  have HI0 := Lib.hid (show TalInv w base a b0 b1 bw w.heap.size ts gs bd nilV W2 [] ts gs [] from
    ⟨.refl _, hR, ⟨rfl, .inl ⟨rfl, rfl⟩⟩, (fun q hq => by cases hq), (fun t ht => (h.tk _ hmem t ht).1.upd hU3 (by simp) (by simp)), h.hb.upd hU3 (by simp), h.ga.upd hU3 (by simp), fun x => rfl, hU3, (fun b hb => by cases hb), .nil⟩)
  have HA := Lib.hid h
  clear hR hU3 hM h
  go_enter Tryz.func40, Tryz.ntmps40
  go_wp2_with fail
  clear hrun hs3
  go_loopw [5] (fun va wr => ∃ done left gs' S, TalInv w base a b0 b1 bw w.heap.size ts gs bd va wr done left gs' S) (fun _ wr => wr.rangeLeft bw w.heap.size)
  case atStart => exact ⟨[], ts, gs, [], HI0.out⟩
  case round =>
    obtain ⟨done, left, gs', S, hI⟩ := hrel
    have HI := Lib.hid hI
    rcases RngAt.next (P := Tryz.prog) hI.rg 0 with ⟨hnil, hnx⟩ | ⟨m1, k, v, m2, w5, hsp, hnx, hR5, hU5, hent⟩
    · clear hI HI0
      obtain rfl : left = [] := by simpa using hnil
      obtain ⟨A, cA, rfl, _, _, _⟩ := own_shape HI.out.row
      have hdl : done.length ≤ 4194304 := by
        have := HI.out.pm.length_eq
        simp at this
        omega
      have HDL := Lib.hid (show done.length ≤ 4611686018427387903 by omega)
      clear hnil hdl
      go_wp2_with fail
      refine (sortT_calls HI.out.row HDL.out).mono ?_
      rintro e w6 ⟨rfl, l', hp, hs, ho6, hU6⟩
      obtain ⟨dn, hdn, rfl⟩ := perm_lift (fun q : TR × TC => q.2) hp rfl
      have HDN := Lib.hid hdn
      have HS := Lib.hid hs
      have HO6 := Lib.hid ho6
      have HU6 := Lib.hid hU6
      clear hp hdn hs ho6 hU6 hnx
      go_wp2
      go_ret
      have hp0 : (done.map (·.1)).Perm ts := by have := HI.out.pm; rwa [List.append_nil] at this
      have hpd : (dn.map (·.1)).Perm ts := (HDN.out.map _).trans hp0
      have hkd : ((dn.map (·.1)).map TR.key).Nodup := (hpd.map TR.key).nodup_iff.2 HKEYS.out
      have hlow := own_low HI.out.row
      have hold : ∀ b, own b ≠ .no → b ∉ (Value.slice A done.length cA).ownBlock.toList := fun b hb hm => by
        have h1 := (HA.out.lo b hb).2
        have h2 := hlow b hm
        omega
      have htl : ∀ q ∈ dn, TlOf wr base w.heap.size gs q := fun q hq => HI.out.tl q (HDN.out.mem_iff.1 hq)
      refine ⟨_, dn, gs', S, rfl, hpd, ?_, ?_, fun q hq => ?_, ?_, HI.out.hb.upd HU6.out (hold _ (by rw [HA.out.oa]; simp)), HI.out.ga.upd HU6.out (hold _ (by rw [show own b1 = _ from HA.out.o1]; simp)), fun x => ?_, ?_, HI.out.sS⟩
      · have h1 : dn.Pairwise fun q q' => ltT q'.2 q.2 = false := List.pairwise_map.1 HS.out
        rw [List.map_map] at hkd
        have h2 : dn.Pairwise fun q q' => q.1.key ≠ q'.1.key := List.pairwise_map.1 hkd
        refine List.pairwise_map.2 (List.Pairwise.imp_of_mem (fun {q q'} hq hq' h => ?_) (h1.and h2))
        have k1 := (htl q hq).1
        have k2 := (htl q' hq').1
        rcases Bool.eq_false_or_eq_true (ltM (q.2.k, q.2.n) (q'.2.k, q'.2.n)) with g | g
        · exact g
        · have e := ltM_total g h.1
          refine absurd ?_ h.2
          have e1 : q.2.k = q.1.k := k1.k
          have e2 : q.2.n = q.1.n := k1.n
          have e3 : q'.2.k = q'.1.k := k2.k
          have e4 : q'.2.n = q'.1.n := k2.n
          unfold TR.key
          rw [← e1, ← e2, ← e3, ← e4]
          exact e
      · rw [HDN.out.length_eq]
        exact HO6.out
      · have hq0 := htl q hq
        have ho := HA.out.ot _ hmem q.1 (hpd.subset (List.mem_map_of_mem hq))
        exact hq0.upd HU6.out (fun g hg => hold g (by rw [ho.2 g hg]; simp)) (fun g hg => own_ne2 HI.out.row hq0.1.mem (by decide) g hg)
      · exact (HDN.out.flatMap_right _).nodup_iff.2 HI.out.nd
      · rw [HI.out.gl]
        exact (gAfter_perm (HDN.out.map _) ((hp0.map TR.key).nodup_iff.2 HKEYS.out) x).symm
      · exact HI.out.up.trans HU6.out (fun i hi => hi) (fun i hi => .inr (hlow i hi))
    · clear hI HI0
      obtain ⟨l1, t, l2, rfl, h1, h2, h3⟩ := map_app tE hsp
      simp only [tE, Prod.mk.injEq] at h2
      obtain ⟨rfl, rfl⟩ := h2
      unfold kvM TR.key at hnx hent
      dsimp only at hnx hent
      go_wp2_with fail
      have hout : (⟨id, bw, ts⟩ : WR) ∈ la ++ ⟨id, bw, ts⟩ :: lb := by simp
      have htm : t ∈ ts := HI.out.pm.subset (by simp)
      have hot := HA.out.ot _ hout t htm
      have hxn : ∀ b, own b ≠ .aux id t.k t.n → b ∉ t.x := fun b hb hm => hb (hot.2 b hm)
      have hbx : b1 ∉ t.x := hxn _ (by rw [show own b1 = _ from HA.out.o1]; simp)
      have hax : a ∉ t.x := hxn _ (by rw [HA.out.oa]; simp)
      have hsx : w5.heap.size ∉ t.x := fun hm => by
        have h1 := (HA.out.lo _ (by rw [hot.2 _ hm]; simp)).2
        have h2 := HI.out.up.size
        have h3 := hU5.size
        omega
      obtain ⟨W0, hW0⟩ : ∃ W0, W0 = w5.alloc (.cells #[.int .i64 t.k, .string t.n] TMet) := ⟨_, rfl⟩
      have HMB := Lib.hid (HB.new w5 TMet [.int .i64 t.k, .string t.n])
      have hUW := hU5.alloc (.cells #[.int .i64 t.k, .string t.n] TMet)
      show Code.wp _ _ _ _ (w5.alloc (.cells #[.int .i64 t.k, .string t.n] TMet))
      rw [show (w5.alloc (.cells [Value.int .i64 t.k, .string t.n].toArray TMet)) = W0 from hW0.symm] at HMB
      rw [← hW0] at hUW ⊢
      have hUW0 := hW0
      clear hW0
      obtain ⟨A, cA, rfl, _, _, _⟩ := own_shape HI.out.row
      obtain ⟨mb, hmb⟩ : ∃ mb, mb = w5.heap.size := ⟨_, rfl⟩
      rw [← hmb] at HMB hsx ⊢
      have hit : ∀ b, own b ≠ .no → b ∉ [w.heap.size] := fun b hb hm => by
        simp at hm
        have := (HA.out.lo b hb).2
        omega
      have HQ := Lib.hid (show ∀ W, Upd t.x W0 W → HB W mb TMet [.int .i64 t.k, .string t.n] ∧ HB W a TAgg [.map (some b0), .map (some b1), .int .i64 bd] ∧ MapAt W Value.string b1 (gs'.map fun g => (g.1, wide g.2)) from fun W h =>
        ⟨HMB.out.upd h hsx, (HI.out.hb.upd hUW (hit _ (by rw [HA.out.oa]; simp))).upd h hax, (HI.out.ga.upd hUW (hit _ (by rw [show own b1 = _ from HA.out.o1]; simp))).upd h hbx⟩)
      have HTK := Lib.hid ((HI.out.tk t (by simp)).upd hUW (hit _ (by rw [hot.1]; simp)) (fun b hb => hit b (by rw [hot.2 b hb]; simp)))
      obtain ⟨gb, hgb⟩ : ∃ gb, gb = (gl t.n gs').getD 0 := ⟨_, rfl⟩
      have HLK := Lib.hid (show ∀ W, Upd t.x W0 W → (Instr.lookup 74 (.map (some b1)) (.string t.n) false).run Tryz.prog W = .ok (wide gb) W from fun W h => by
        have hlk := run_lookup (P := Tryz.prog) klS Tryz.underlying74 (HQ.out W h).2.2 t.n false (zeroW _)
        rw [show (gs'.map fun g => (g.1, wide g.2)) = (⟨b0, b1, [], gs', bd⟩ : AgL).gau from rfl, look_gau] at hlk
        simp only [Bool.false_eq_true, if_false] at hlk
        rw [hlk, hgb]
        cases gl t.n gs' <;> rfl)
      have HTL := Lib.hid (show ∀ W, Upd [] W0 W → Calls Tryz.prog t.tk.tellF #[.pointer (some ⟨t.p, 0, none⟩), wide gb] W fun r w' => ∃ sv mv, r = .returned (.agg (tallyC 0 ⟨#[]⟩ t.tk.n (t.tk.sum gb) t.tk.wt sv mv).toArray) ∧ w'.ownsRow base 2 1 sv t.tk.smp.length (t.tk.smp.map (Value.int .i64)) ∧
          w'.ownsRow W.heap.size 9 1 mv t.tk.mem.length (t.tk.mem.map Value.string) ∧ (∀ g, sv.ownBlock = some g → g ∈ t.x) ∧ Upd t.x W w' from fun W h => tell_calls base t.p N t.x t.tk gb W (HTK.out.upd h (by simp) (by simp)) (hN t htm) hN2 (by rw [hgb, HI.out.gl]; exact gAfter_bd (fun s hs => hN s (HI.out.pm.subset (List.mem_append_left _ hs))) hN2 hg))
      have HXL := Lib.hid (show ∀ i ∈ t.x, i < W0.heap.size from fun i hi => by have := (HTK.out.lt).2 i hi; exact this)
      have hpk : ((done.map (·.1) ++ (l1 ++ t :: l2)).map TR.key).Nodup := (HI.out.pm.map TR.key).nodup_iff.2 HKEYS.out
      have hdk : ∀ q ∈ done, q.1.key ≠ t.key := fun q hq e => by
        rw [List.map_append, List.nodup_append] at hpk
        exact hpk.2.2 q.1.key (List.mem_map_of_mem (List.mem_map_of_mem hq)) t.key (List.mem_map_of_mem (by simp)) e
      have hlk : ∀ s, s ∈ l1 ++ l2 → s.key ≠ t.key := fun s hs => by
        rw [List.map_append, List.nodup_append] at hpk
        exact split_ne TR.key hpk.2.1 s (by simpa using hs)
      have hin : ∀ s, s ∈ done.map (·.1) ∨ s ∈ l1 ++ l2 → s ∈ ts := fun s hs => HI.out.pm.subset (by
        rcases hs with hs | hs
        · exact List.mem_append_left _ hs
        · rcases List.mem_append.1 hs with hs | hs
          · simp [hs]
          · simp [hs])
      have hkn : ∀ s ∈ ts, s.key ≠ t.key → ∀ b, (own b = .tak id s.k s.n ∨ own b = .aux id s.k s.n) → b ∉ b1 :: t.x := fun s hs hk b hb hm => by
        rcases List.mem_cons.1 hm with e | hm
        · have h1 : own b1 = .ga := HA.out.o1
          rw [e, h1] at hb
          rcases hb with hb | hb <;> cases hb
        · have h1 := hot.2 b hm
          rw [h1] at hb
          rcases hb with hb | hb
          · cases hb
          · injection hb with _ h2 h3
            exact hk (by unfold TR.key; rw [h2, h3])
      have hhi : ∀ b, w.heap.size ≤ b → b ∉ b1 :: t.x := fun b hb hm => by
        rcases List.mem_cons.1 hm with e | hm
        · have := (HA.out.lo b1 (by rw [show own b1 = _ from HA.out.o1]; simp)).2
          omega
        · have := (HA.out.lo b (by rw [hot.2 b hm]; simp)).2
          omega
      have hbw : bw ∉ b1 :: t.x := fun hm => by
        have hb := HA.out.ow _ hout
        simp only at hb
        rcases List.mem_cons.1 hm with e | hm
        · have h1 : own b1 = .ga := HA.out.o1
          rw [e, h1] at hb; cases hb
        · rw [hot.2 bw hm] at hb; cases hb
      have hnr := own_ne_rng HI.out.row HI.out.rg
      have hR6 : RngAt w5 kvM bw w.heap.size (ts.map tE) ((l1 ++ l2).map tE) := by rw [List.map_append, h1, h3]; exact hR5
      have HKEEP := Lib.hid (show ∀ W, Upd (b1 :: t.x) W0 W → RngAt W kvM bw w.heap.size (ts.map tE) ((l1 ++ l2).map tE) ∧ W.ownsRow w.heap.size TTal 9 (.slice A done.length cA) done.length ((done.map (·.2)).flatMap TC.cells) ∧ (∀ q ∈ done, TlOf W base w.heap.size gs q) ∧
          (∀ s ∈ l1 ++ l2, TakAt W base s.p s.x s.tk) ∧ HB W a TAgg [.map (some b0), .map (some b1), .int .i64 bd] from fun W hW => by
        refine ⟨?_, ?_, fun q hq => ?_, fun s hs => ?_, ?_⟩
        · exact (hR6.upd (show Upd [] w5 W0 from by rw [hUW0]; exact Upd.alloc (Upd.refl [] w5) _) (by simp) (by simp)).upd hW hbw (hhi _ (Nat.le_refl _))
        · exact own_upd (own_upd HI.out.row hUW (fun g hg hm => hnr.2 (by simp at hm; subst hm; simp [hg]))) hW (fun g hg => hhi g (own_low HI.out.row g (by simp [hg])))
        · have hq0 := HI.out.tl q hq
          have hqt := hin q.1 (.inl (List.mem_map_of_mem hq))
          have ho := HA.out.ot _ hout q.1 hqt
          have hql := HI.out.rg
          refine (hq0.upd hUW (fun g hg => hit g (by rw [ho.2 g hg]; simp)) (fun g hg hm => (own_ne_rng hq0.1.mem hql).2 (by simp at hm; subst hm; simp [hg]))).upd hW (fun g hg => hkn q.1 hqt (hdk q hq) g (.inr (ho.2 g hg))) (fun g hg => hhi g (own_low hq0.1.mem g (by simp [hg])))
        · have hst := hin s (.inr hs)
          have ho := HA.out.ot _ hout s hst
          have h0 := HI.out.tk s (by rcases List.mem_append.1 hs with hs | hs <;> simp [hs])
          exact (h0.upd hUW (hit _ (by rw [ho.1]; simp)) (fun b hb => hit b (by rw [ho.2 b hb]; simp))).upd hW (hkn s hst (hlk s hs) _ (.inl ho.1)) (fun b hb => hkn s hst (hlk s hs) b (.inr (ho.2 b hb)))
        · refine (HI.out.hb.upd hUW (hit _ (by rw [HA.out.oa]; simp))).upd hW (fun hm => ?_)
          have hb := HA.out.oa
          rcases List.mem_cons.1 hm with e | hm
          · have h1 : own b1 = .ga := HA.out.o1
            rw [e, h1] at hb; cases hb
          · rw [hot.2 a hm] at hb; cases hb)
      have HPM := Lib.hid (show ∀ u : TC, ((done ++ [(t, u)]).map (·.1) ++ (l1 ++ l2)).Perm ts from fun u => by
        refine List.Perm.trans ?_ HI.out.pm
        rw [List.map_append, List.append_assoc]
        exact List.Perm.append_left _ (by simpa using List.perm_middle.symm))
      have hnd2 : ∀ s ∈ done.map (·.1), ¬ (s.k = 2 ∧ s.n = t.n ∧ t.k = 2) := fun s hs e => by
        obtain ⟨q, hq, rfl⟩ := List.mem_map.1 hs
        exact hdk q hq (by unfold TR.key; rw [e.1, e.2.1, e.2.2])
      have HGN := Lib.hid (show t.k ≠ 2 → ∀ x, gl x gs' = gAfter gs (done.map (·.1) ++ [t]) x from fun hk x => by
        rw [gAfter_not (fun h => hk h.1)]
        exact HI.out.gl x)
      have HGS := Lib.hid (show t.tk.sum gb = t.tk.sum ((gl t.n gs).getD 0) from by
        by_cases hk : t.k = 2
        · rw [hgb, HI.out.gl, gAfter_new (fun s hs e => hnd2 s hs ⟨e.1, e.2, hk⟩)]
        · exact sum_base (fun e => hk (by rw [← (HA.out.tk _ hout t htm).2]; exact e)) _ _)
      have HGG := Lib.hid (show t.k = 2 → ∀ gs2, (∀ y, gl y gs2 = if y = t.n then some (t.tk.sum gb) else gl y gs') → ∀ x, gl x gs2 = gAfter gs (done.map (·.1) ++ [t]) x from fun hk gs2 hg2 x => by
        rw [hg2 x]
        by_cases e : x = t.n
        · subst e
          rw [if_pos rfl, gAfter_is (fun s hs e => hnd2 s hs ⟨e.1, e.2, hk⟩) hk, HGS.out]
        · rw [if_neg e, gAfter_not (fun h => e h.2.symm)]
          exact HI.out.gl x)
      have HND := Lib.hid (show ∀ u : TC, (∀ g, u.sv.ownBlock = some g → g ∈ t.x) → (∀ g, u.mv.ownBlock = some g → W0.heap.size ≤ g) → ((done ++ [(t, u)]).flatMap fun q => q.2.bl).Nodup from fun u hu1 hu2 => by
        have hux : ∀ g ∈ t.x, g < w.heap.size := fun g hg => (HA.out.lo g (by rw [hot.2 g hg]; simp)).2
        have hsz : w.heap.size ≤ W0.heap.size := by
          have h2 := HI.out.up.size
          have h3 := hUW.size
          omega
        rw [List.flatMap_append]
        refine nodup_snoc HI.out.nd ?_ (fun g hg hm => ?_)
        · simp only [List.flatMap_cons, List.flatMap_nil, List.append_nil, TC.bl]
          refine nodup_snoc (by cases u.sv.ownBlock <;> simp) (by cases u.mv.ownBlock <;> simp) (fun g hg hm => ?_)
          have g1 := hux g (hu1 g (by simpa using hg))
          have g2 := hu2 g (by simpa using hm)
          omega
        · obtain ⟨q, hq, hgq⟩ := List.mem_flatMap.1 hg
          have hq0 := HI.out.tl q hq
          have hqt := hin q.1 (.inl (List.mem_map_of_mem hq))
          have ho := HA.out.ot _ hout q.1 hqt
          simp only [List.flatMap_cons, List.flatMap_nil, List.append_nil, TC.bl, List.mem_append, Option.mem_toList] at hm hgq
          have hlt : g < W0.heap.size := by
            have h3 := hUW.size
            rcases hgq with hgq | hgq
            · have := hux
              have := (own_lt hq0.1.smp g hgq)
              omega
            · have := (own_lt hq0.1.mem g hgq)
              omega
          rcases hm with hm | hm
          · have hgt := hu1 g hm
            rcases hgq with hgq | hgq
            · exact hkn q.1 hqt (hdk q hq) g (.inr (ho.2 g (hq0.2 g hgq))) (List.mem_cons_of_mem _ hgt)
            · have := own_low hq0.1.mem g (by simpa using hgq)
              have := hux g hgt
              omega
          · have := hu2 g hm
            omega)
      have HUP := Lib.hid (show ∀ W, Upd (b1 :: t.x) W0 W → Upd (b1 :: t.x ++ S) w W from fun W hW => by
        refine (HI.out.up.trans hUW (T := [w.heap.size]) (U := S) (fun _ h => h) (fun i hi => .inr (by simp at hi; omega))).trans hW (fun i hi => List.mem_append_right _ hi) (fun i hi => .inl (List.mem_append_left _ hi)))
      have HSS := Lib.hid (show ∀ b ∈ b1 :: t.x ++ S, b = b1 ∨ ∃ t ∈ ts, b ∈ t.x from fun b hb => by
        rcases List.mem_append.1 hb with hb | hb
        · rcases List.mem_cons.1 hb with hb | hb
          · exact .inl hb
          · exact .inr ⟨t, htm, hb⟩
        · exact HI.out.sS b hb)
      have HLEN := Lib.hid (show done.length ≤ 4194304 from by
        have := HI.out.pm.length_eq
        simp at this
        omega)
      have HKD := Lib.hid (show t.tk.kind = t.k from (HA.out.tk _ hout t htm).2)
      have HLE := Lib.hid (show wr.rangeLeft bw w.heap.size = (l1 ++ l2).length + 1 from by rw [HI.out.rg.left_eq]; simp; omega)
      have HUWS := Lib.hid (show wr.heap.size ≤ W0.heap.size from hUW.size)
      have HIN := Lib.hid hin
      clear hpk hdk hlk hin hkn hhi hbw hnr hR6 hnd2 hit
      obtain ⟨tp, htp⟩ : ∃ tp, tp = t.p := ⟨_, rfl⟩
      obtain ⟨tk, htk⟩ : ∃ tk, tk = t.tk := ⟨_, rfl⟩
      unfold TR.val
      rw [← htk, ← htp] at HTL
      rw [← htk] at HGS HGG HKD
      rw [← htk, ← htp]
      obtain ⟨n0, hn0⟩ : ∃ n0, n0 = tk.n := ⟨_, rfl⟩
      obtain ⟨s0, hs0⟩ : ∃ s0, s0 = tk.sum gb := ⟨_, rfl⟩
      obtain ⟨wt0, hwt0⟩ : ∃ wt0, wt0 = tk.wt := ⟨_, rfl⟩
      obtain ⟨smp0, hsmp0⟩ : ∃ smp0, smp0 = tk.smp := ⟨_, rfl⟩
      obtain ⟨mem0, hmem0⟩ : ∃ mem0, mem0 = tk.mem := ⟨_, rfl⟩
      rw [← hn0, ← hs0, ← hwt0, ← hsmp0, ← hmem0] at HTL
      rw [← hs0] at HGS HGG
      have HDAT := Lib.hid (And.intro htp (And.intro htk (And.intro hn0 (And.intro hs0 (And.intro hwt0 (And.intro hsmp0 hmem0))))))
      have HEQ := Lib.hid (And.intro hmb hgb)
      clear htp htk hn0 hs0 hwt0 hsmp0 hmem0 hnx hent hsp hmb hgb
      cases tk
      · simp only [TK.ty]
        have hna : ∀ W, (nilAhead 345 116 (.pointer (some ⟨tp, 0, none⟩)) "tumbler/agg.tell").run Tryz.prog W = .ok (some false) W := fun W => by kernel_rfl
        refine region_rel2 13 (by kernel_rfl) (by kernel_rfl) rfl (by kernel_rfl) (fun D aa W => ∃ x16 x17 x18 x19 x20 x21 x22 x23 x24 x25 x26 x27 x8 : Value, aa = { tmps := #[.pointer (some ⟨a, 0, none⟩), .map (some bw), undef, undef, .slice none 0 0, .slice A done.length cA, .pointer (some ⟨mb, 0, none⟩), (.iface 116 (.pointer (some ⟨tp, 0, none⟩))), x8, .map (some bw), .pointer (some ⟨w.heap.size, 0, none⟩), .tuple #[.bool true, (.agg #[.int .i64 t.k, .string t.n]), (.iface 116 (.pointer (some ⟨tp, 0, none⟩)))], .bool true, .tuple #[(.agg #[.int .i64 t.k, .string t.n]), (.iface 116 (.pointer (some ⟨tp, 0, none⟩)))], (.agg #[.int .i64 t.k, .string t.n]), (.iface 116 (.pointer (some ⟨tp, 0, none⟩))), x16, x17, x18, x19, x20, x21, x22, x23, x24, x25, x26, x27, u28, u29, u30, u31, u32, u33, u34, u35, u36, u37, u38, u39, u40, u41, u42, u43, u44, u45, u46, u47, u48, undef, undef, undef], defers := [] } ∧ Upd t.x W0 W ∧ (D 0 = true → x16 = (.iface 116 (.pointer (some ⟨tp, 0, none⟩)))) ∧ (D 1 = true → x17 = .pointer (some ⟨a, 0, none⟩)) ∧ (D 2 = true → x18 = .pointer (some ⟨a, 0, none⟩)) ∧ (D 3 = true → x19 = .pointer (some ⟨a, 1, none⟩)) ∧ (D 4 = true → x20 = .map (some b1)) ∧ (D 5 = true → x21 = .pointer (some ⟨mb, 1, none⟩)) ∧ (D 6 = true → x22 = .string t.n) ∧ (D 7 = true → x23 = wide gb) ∧ (D 8 = true → x24 = .func (.method "tumbler/agg.tell") #[(.iface 116 (.pointer (some ⟨tp, 0, none⟩)))] #[]) ∧ (D 9 = true → x25 = .func (.method "tumbler/agg.tell") #[(.iface 116 (.pointer (some ⟨tp, 0, none⟩)))] #[]) ∧ (D 10 = true → x26 = (.iface 116 (.pointer (some ⟨tp, 0, none⟩)))) ∧ (D 11 = true → TelR base t.x W0 W n0 s0 wt0 smp0 mem0 x27) ∧ (D 12 = true → Blk W0 W TTal tal0 x8) ∧ ((D 11 = false → Upd [] W0 W))) ⟨_, _, _, _, _, _, _, _, _, _, _, _, _, rfl, (Upd.refl _ _).drew, (fun h => by cases h), (fun h => by cases h), (fun h => by cases h), (fun h => by cases h), (fun h => by cases h), (fun h => by cases h), (fun h => by cases h), (fun h => by cases h), (fun h => by cases h), (fun h => by cases h), (fun h => by cases h), (fun h => by cases h), (fun h => by cases h), (fun _ => (Upd.refl _ _).drew)⟩ ?_ ?_
        · rintro D aa W i o ⟨x16, x17, x18, x19, x20, x21, x22, x23, x24, x25, x26, x27, x8, rfl, hU, h0, h1, h2, h3, h4, h5, h6, h7, h8, h9, h10, h11, h12, hE⟩ hi ho hDi hdep hcl
          match i with
          | 0 =>
            refine wpOp_via ho fun KK hK => ?_
            have HK := Lib.hid hK
            clear hK
            obtain rfl := Option.some.inj ho
            have HUW := Lib.hid hU
            clear hU
            go_wp2
            exact HK.out _ _ ⟨_, _, _, _, _, _, _, _, _, _, _, _, _, rfl, HUW.out, (fun _ => rfl), (by simpa using h1), (by simpa using h2), (by simpa using h3), (by simpa using h4), (by simpa using h5), (by simpa using h6), (by simpa using h7), (by simpa using h8), (by simpa using h9), (by simpa using h10), (fun h => h11 (by simpa using h)), (fun h => h12 (by simpa using h)), (fun h => hE (by simpa using h))⟩
          | 1 =>
            refine wpOp_via ho fun KK hK => ?_
            have HK := Lib.hid hK
            clear hK
            obtain rfl := Option.some.inj ho
            have HUW := Lib.hid hU
            clear hU
            go_wp2
            exact HK.out _ _ ⟨_, _, _, _, _, _, _, _, _, _, _, _, _, rfl, HUW.out, (by simpa using h0), (fun _ => rfl), (by simpa using h2), (by simpa using h3), (by simpa using h4), (by simpa using h5), (by simpa using h6), (by simpa using h7), (by simpa using h8), (by simpa using h9), (by simpa using h10), (fun h => h11 (by simpa using h)), (fun h => h12 (by simpa using h)), (fun h => hE (by simpa using h))⟩
          | 2 =>
            refine wpOp_via ho fun KK hK => ?_
            have HK := Lib.hid hK
            clear hK
            obtain rfl := Option.some.inj ho
            obtain rfl := h1 (hdep ⟨1, .data⟩ (by simp) rfl)
            have HUW := Lib.hid hU
            clear hU
            go_wp2
            exact HK.out _ _ ⟨_, _, _, _, _, _, _, _, _, _, _, _, _, rfl, HUW.out, (by simpa using h0), (fun _ => rfl), (fun _ => rfl), (by simpa using h3), (by simpa using h4), (by simpa using h5), (by simpa using h6), (by simpa using h7), (by simpa using h8), (by simpa using h9), (by simpa using h10), (fun h => h11 (by simpa using h)), (fun h => h12 (by simpa using h)), (fun h => hE (by simpa using h))⟩
          | 3 =>
            refine wpOp_via ho fun KK hK => ?_
            have HK := Lib.hid hK
            clear hK
            obtain rfl := Option.some.inj ho
            obtain rfl := h2 (hdep ⟨2, .data⟩ (by simp) rfl)
            have HUW := Lib.hid hU
            clear hU
            go_wp2
            exact HK.out _ _ ⟨_, _, _, _, _, _, _, _, _, _, _, _, _, rfl, HUW.out, (by simpa using h0), (by simpa using h1), (fun _ => rfl), (fun _ => rfl), (by simpa using h4), (by simpa using h5), (by simpa using h6), (by simpa using h7), (by simpa using h8), (by simpa using h9), (by simpa using h10), (fun h => h11 (by simpa using h)), (fun h => h12 (by simpa using h)), (fun h => hE (by simpa using h))⟩
          | 4 =>
            refine wpOp_via ho fun KK hK => ?_
            have HK := Lib.hid hK
            clear hK
            obtain rfl := Option.some.inj ho
            obtain rfl := h3 (hdep ⟨3, .data⟩ (by simp) rfl)
            have HUW := Lib.hid hU
            clear hU
            have s1 := (HQ.out _ HUW.out).2.1.cell (j := 1) rfl
            go_wp2
            exact HK.out _ _ ⟨_, _, _, _, _, _, _, _, _, _, _, _, _, rfl, HUW.out, (by simpa using h0), (by simpa using h1), (by simpa using h2), (fun _ => rfl), (fun _ => rfl), (by simpa using h5), (by simpa using h6), (by simpa using h7), (by simpa using h8), (by simpa using h9), (by simpa using h10), (fun h => h11 (by simpa using h)), (fun h => h12 (by simpa using h)), (fun h => hE (by simpa using h))⟩
          | 5 =>
            refine wpOp_via ho fun KK hK => ?_
            have HK := Lib.hid hK
            clear hK
            obtain rfl := Option.some.inj ho
            have HUW := Lib.hid hU
            clear hU
            go_wp2
            exact HK.out _ _ ⟨_, _, _, _, _, _, _, _, _, _, _, _, _, rfl, HUW.out, (by simpa using h0), (by simpa using h1), (by simpa using h2), (by simpa using h3), (by simpa using h4), (fun _ => rfl), (by simpa using h6), (by simpa using h7), (by simpa using h8), (by simpa using h9), (by simpa using h10), (fun h => h11 (by simpa using h)), (fun h => h12 (by simpa using h)), (fun h => hE (by simpa using h))⟩
          | 6 =>
            refine wpOp_via ho fun KK hK => ?_
            have HK := Lib.hid hK
            clear hK
            obtain rfl := Option.some.inj ho
            obtain rfl := h5 (hdep ⟨5, .data⟩ (by simp) rfl)
            have HUW := Lib.hid hU
            clear hU
            have s1 := (HQ.out _ HUW.out).1.cell (j := 1) rfl
            go_wp2
            exact HK.out _ _ ⟨_, _, _, _, _, _, _, _, _, _, _, _, _, rfl, HUW.out, (by simpa using h0), (by simpa using h1), (by simpa using h2), (by simpa using h3), (by simpa using h4), (fun _ => rfl), (fun _ => rfl), (by simpa using h7), (by simpa using h8), (by simpa using h9), (by simpa using h10), (fun h => h11 (by simpa using h)), (fun h => h12 (by simpa using h)), (fun h => hE (by simpa using h))⟩
          | 7 =>
            refine wpOp_via ho fun KK hK => ?_
            have HK := Lib.hid hK
            clear hK
            obtain rfl := Option.some.inj ho
            obtain rfl := h4 (hdep ⟨4, .data⟩ (by simp) rfl)
            obtain rfl := h6 (hdep ⟨6, .data⟩ (by simp) rfl)
            have HUW := Lib.hid hU
            clear hU
            have s1 := HLK.out _ HUW.out
            go_wp2
            exact HK.out _ _ ⟨_, _, _, _, _, _, _, _, _, _, _, _, _, rfl, HUW.out, (by simpa using h0), (by simpa using h1), (by simpa using h2), (by simpa using h3), (fun _ => rfl), (by simpa using h5), (fun _ => rfl), (fun _ => rfl), (by simpa using h8), (by simpa using h9), (by simpa using h10), (fun h => absurd (hcl 11 _ rfl (by simpa using h) ⟨7, .data⟩ (by simp) rfl) (by rw [hDi]; simp)), (fun h => h12 (by simpa using h)), (fun h => hE (by simpa using h))⟩
          | 8 =>
            refine wpOp_via ho fun KK hK => ?_
            have HK := Lib.hid hK
            clear hK
            obtain rfl := Option.some.inj ho
            obtain rfl := h0 (hdep ⟨0, .data⟩ (by simp) rfl)
            have HUW := Lib.hid hU
            clear hU
            go_wp2
            exact HK.out _ _ ⟨_, _, _, _, _, _, _, _, _, _, _, _, _, rfl, HUW.out, (fun _ => rfl), (by simpa using h1), (by simpa using h2), (by simpa using h3), (by simpa using h4), (by simpa using h5), (by simpa using h6), (by simpa using h7), (fun _ => rfl), (by simpa using h9), (by simpa using h10), (fun h => h11 (by simpa using h)), (fun h => h12 (by simpa using h)), (fun h => hE (by simpa using h))⟩
          | 9 =>
            refine wpOp_via ho fun KK hK => ?_
            have HK := Lib.hid hK
            clear hK
            obtain rfl := Option.some.inj ho
            obtain rfl := h8 (hdep ⟨8, .data⟩ (by simp) rfl)
            have HUW := Lib.hid hU
            clear hU
            go_wp2
            exact HK.out _ _ ⟨_, _, _, _, _, _, _, _, _, _, _, _, _, rfl, HUW.out, (by simpa using h0), (by simpa using h1), (by simpa using h2), (by simpa using h3), (by simpa using h4), (by simpa using h5), (by simpa using h6), (by simpa using h7), (fun _ => rfl), (fun _ => rfl), (by simpa using h10), (fun h => h11 (by simpa using h)), (fun h => h12 (by simpa using h)), (fun h => hE (by simpa using h))⟩
          | 10 =>
            refine wpOp_via ho fun KK hK => ?_
            have HK := Lib.hid hK
            clear hK
            obtain rfl := Option.some.inj ho
            obtain rfl := h0 (hdep ⟨0, .data⟩ (by simp) rfl)
            have HUW := Lib.hid hU
            clear hU
            go_wp2
            exact HK.out _ _ ⟨_, _, _, _, _, _, _, _, _, _, _, _, _, rfl, HUW.out, (fun _ => rfl), (by simpa using h1), (by simpa using h2), (by simpa using h3), (by simpa using h4), (by simpa using h5), (by simpa using h6), (by simpa using h7), (by simpa using h8), (by simpa using h9), (fun _ => rfl), (fun h => absurd (hcl 11 _ rfl (by simpa using h) ⟨10, .data⟩ (by simp) rfl) (by rw [hDi]; simp)), (fun h => h12 (by simpa using h)), (fun h => hE (by simpa using h))⟩
          | 11 =>
            refine wpOp_via ho fun KK hK => ?_
            have HK := Lib.hid hK
            clear hK
            obtain rfl := Option.some.inj ho
            obtain rfl := h10 (hdep ⟨10, .data⟩ (by simp) rfl)
            obtain rfl := h7 (hdep ⟨7, .data⟩ (by simp) rfl)
            have HUW := Lib.hid hU
            clear hU
            have hE0 := HTL.out _ (hE hDi)
            go_wp2_with fail
            refine hE0.mono ?_
            rintro e w6 ⟨sv, mv, rfl, g1, g2, g3, g4⟩
            have hx : TelR base t.x W0 w6 n0 s0 wt0 smp0 mem0 (.agg (tallyC 0 ⟨#[]⟩ n0 s0 wt0 sv mv).toArray) := ⟨sv, mv, rfl, g1, own_mono g2 HUW.out.size, g3⟩
            have hUF : Upd t.x W0 w6 := HUW.out.then g4
            have hG : ∃ S, Upd S W w6 ∧ ∀ i ∈ S, i < W0.heap.size := ⟨t.x, g4, HXL.out⟩
            have HX := Lib.hid hx
            have HUF := Lib.hid hUF
            have HG := Lib.hid hG
            clear hx hUF hG g1 g2 g3 g4 hE0
            go_wp2
            have hx := HX.out
            have hUF := HUF.out
            have hG := HG.out
            exact HK.out _ _ ⟨_, _, _, _, _, _, _, _, _, _, _, _, _, rfl, hUF, (by simpa using h0), (by simpa using h1), (by simpa using h2), (by simpa using h3), (by simpa using h4), (by simpa using h5), (by simpa using h6), (fun _ => rfl), (by simpa using h8), (by simpa using h9), (fun _ => rfl), (fun _ => hx), (fun h => Blk.upd0_g (h12 (by simpa using h)) hG), (fun h => by simp at h)⟩
          | 12 =>
            refine wpOp_via ho fun KK hK => ?_
            have HK := Lib.hid hK
            clear hK
            obtain rfl := Option.some.inj ho
            have HUW := Lib.hid hU
            clear hU
            have hx : Blk W0 (W.alloc (.cells tal0.toArray TTal)) TTal tal0 (.pointer (some ⟨W.heap.size, 0, none⟩)) := ⟨_, rfl, HUW.out.size, HB.new W _ _⟩
            have hU1 := (Upd.refl [] W).alloc (.cells tal0.toArray TTal)
            go_wp2
            exact HK.out _ _ ⟨_, _, _, _, _, _, _, _, _, _, _, _, _, rfl, HUW.out.then0 hU1, (by simpa using h0), (by simpa using h1), (by simpa using h2), (by simpa using h3), (by simpa using h4), (by simpa using h5), (by simpa using h6), (by simpa using h7), (by simpa using h8), (by simpa using h9), (by simpa using h10), (fun h => TelR.upd0 (h11 (by simpa using h)) hU1), (fun _ => hx), (fun h => (hE (by simpa using h)).then hU1)⟩
          | i + 13 => omega
        · rintro D aa W o ⟨x16, x17, x18, x19, x20, x21, x22, x23, x24, x25, x26, x27, x8, rfl, hU, h0, h1, h2, h3, h4, h5, h6, h7, h8, h9, h10, h11, h12, hE⟩ hall ho
          refine wpOp_of_list ho ?_
          obtain rfl := Option.some.inj ho
          obtain rfl := h0 (hall 0 (by omega))
          obtain rfl := h1 (hall 1 (by omega))
          obtain rfl := h2 (hall 2 (by omega))
          obtain rfl := h3 (hall 3 (by omega))
          obtain rfl := h4 (hall 4 (by omega))
          obtain rfl := h5 (hall 5 (by omega))
          obtain rfl := h6 (hall 6 (by omega))
          obtain rfl := h7 (hall 7 (by omega))
          obtain rfl := h8 (hall 8 (by omega))
          obtain rfl := h9 (hall 9 (by omega))
          obtain rfl := h10 (hall 10 (by omega))
          have r11 := h11 (hall 11 (by omega))
          have r12 := h12 (hall 12 (by omega))
          obtain ⟨sv, mv, e1, hsv, hmv, hsx2⟩ := r11
          obtain rfl := e1
          obtain ⟨tb, e1, htb1, htb2⟩ := r12
          obtain rfl := e1
          obtain ⟨As, cs, rfl, _, _, _⟩ := own_shape hsv
          obtain ⟨Am, cm, rfl, _, _, _⟩ := own_shape hmv
          unfold tal0 at htb2
          have HSV := Lib.hid hsv
          have HMV := Lib.hid hmv
          have HSX := Lib.hid hsx2
          have HTB := Lib.hid htb2
          have HTB1 := Lib.hid htb1
          have HBT := Lib.hid (show b1 ≠ tb from fun e => by have := (HQ.out _ (Upd.refl _ _)).2.2.lt; omega)
          have HAT := Lib.hid (show a ≠ tb from fun e => by have := (HQ.out _ hU).2.1.lt; have := HQ.out _ (Upd.refl _ _); have := this.2.1.lt; omega)
          have HMT := Lib.hid (show mb ≠ tb from fun e => by have := (HQ.out _ hU).1.lt; have := (HMB.out.lt); omega)
          have HU5 := Lib.hid hU
          have t0 := htb2.cell (j := 0) rfl
          have f0 := htb2.free 0
          have t1 := htb2.cell (j := 1) rfl
          have f1 := htb2.free 1
          have t2 := htb2.cell (j := 2) rfl
          have f2 := htb2.free 2
          have t3 := htb2.cell (j := 3) rfl
          have f3 := htb2.free 3
          have t4 := htb2.cell (j := 4) rfl
          have f4 := htb2.free 4
          have t5 := htb2.cell (j := 5) rfl
          have f5 := htb2.free 5
          have t6 := htb2.cell (j := 6) rfl
          have f6 := htb2.free 6
          have t7 := htb2.cell (j := 7) rfl
          have f7 := htb2.free 7
          have t8 := htb2.cell (j := 8) rfl
          have f8 := htb2.free 8
          unfold tallyC
          clear hsv hmv htb2 hU hE hsx2 htb1
          go_wp2_with fail
          clear t0 t1 t2 t3 t4 t5 t6 t7 t8 f0 f1 f2 f3 f4 f5 f6 f7 f8 hna
          obtain ⟨W1, hW1⟩ : ∃ W1, W1 = put9 W tb (.int .i64 0) (.string ⟨#[]⟩) (.int .i64 n0) (.int .i64 (wh s0)) (.int .u64 (wl s0)) (.int .i64 (wh wt0)) (.int .u64 (wl wt0)) (.slice As smp0.length cs) (.slice Am mem0.length cm) := ⟨_, rfl⟩
          have hUp := put9_upd (S := [tb]) (Upd.refl [tb] W) (b := tb) (.inl (by simp)) (.int .i64 0) (.string ⟨#[]⟩) (.int .i64 n0) (.int .i64 (wh s0)) (.int .u64 (wl s0)) (.int .i64 (wh wt0)) (.int .u64 (wl wt0)) (.slice As smp0.length cs) (.slice Am mem0.length cm)
          have hB1 := put9_HB HTB.out (.int .i64 0) (.string ⟨#[]⟩) (.int .i64 n0) (.int .i64 (wh s0)) (.int .u64 (wl s0)) (.int .i64 (wh wt0)) (.int .u64 (wl wt0)) (.slice As smp0.length cs) (.slice Am mem0.length cm)
          rw [← hW1] at hUp hB1
          unfold put9 at hW1
          rw [← hW1]
          have HTBU := Lib.hid (show tb ∉ t.x from fun hm => by have := HXL.out _ hm; have := HTB1.out; omega)
          have HU1 := Lib.hid (show Upd t.x W0 W1 from HU5.out.trans hUp (fun _ h => h) (fun i hi => .inr (by simp at hi; subst hi; exact HTB1.out)))
          have HSV1 := Lib.hid (own_upd HSV.out hUp (by simpa using own_ne HSV.out HTB.out (by decide)))
          have HMV1 := Lib.hid (own_upd HMV.out hUp (by simpa using own_ne HMV.out HTB.out (by decide)))
          have HB1 := Lib.hid hB1
          have HKQ := Lib.hid (HQ.out W1 HU1.out)
          clear hW1 hUp hB1 HSV HMV HTB HU5
          have m0 := fun q : Wd [tb] W1 => q.h.cell (HKQ.out.1.cell (j := 0) rfl) (by simp; exact HMT.out)
          have mm1 := fun q : Wd [tb] W1 => q.h.cell (HKQ.out.1.cell (j := 1) rfl) (by simp; exact HMT.out)
          have hV2 := ((Upd.refl [tb] W1).setCell (p := ⟨tb, 0, none⟩) (.inl (by simp)) (.int .i64 t.k)).setCell (p := ⟨tb, 1, none⟩) (.inl (by simp)) (.string t.n)
          have hB2 := (HB1.out.set 0 (.int .i64 t.k)).set 1 (.string t.n)
          have c0 := hV2.cell (HKQ.out.1.cell (j := 0) rfl) (by simp; exact HMT.out)
          have c1 := hV2.cell (HKQ.out.1.cell (j := 1) rfl) (by simp; exact HMT.out)
          have c2 := hV2.cell (HKQ.out.2.1.cell (j := 1) rfl) (by simp; exact HAT.out)
          have g0 := HB1.out.free 0
          have g1 := HB1.out.free 1
          have d0 := HB1.out.cell (j := 0) rfl
          have d1 := HB1.out.cell (j := 1) rfl
          have t0 := hB2.cell (j := 0) rfl
          have f0 := hB2.free 0
          have t1 := hB2.cell (j := 1) rfl
          have f1 := hB2.free 1
          have t2 := hB2.cell (j := 2) rfl
          have f2 := hB2.free 2
          have t3 := hB2.cell (j := 3) rfl
          have f3 := hB2.free 3
          have t4 := hB2.cell (j := 4) rfl
          have f4 := hB2.free 4
          have t5 := hB2.cell (j := 5) rfl
          have f5 := hB2.free 5
          have t6 := hB2.cell (j := 6) rfl
          have f6 := hB2.free 6
          have t7 := hB2.cell (j := 7) rfl
          have f7 := hB2.free 7
          have t8 := hB2.cell (j := 8) rfl
          have f8 := hB2.free 8
          clear f0 f1 f2 f3 f4 f5 f6 f7 f8
          obtain ⟨X, hX⟩ : ∃ X, X = (W1.setCell ⟨tb, 0, none⟩ (.int .i64 t.k)).setCell ⟨tb, 1, none⟩ (.string t.n) := ⟨_, rfl⟩
          rw [← hX] at hV2 hB2
          have HV2 := Lib.hid hV2
          have HB2 := Lib.hid hB2
          have HX := Lib.hid hX
          have HK2 := Lib.hid (show t.k ≠ 2 by rw [← HKD.out]; simp [TK.kind])
          have hk2 : (t.k == 2) = false := by rw [← HKD.out]; rfl
          clear hV2 hB2
          have HV1 := Lib.hid ((Upd.refl [tb] W1).setCell (p := ⟨tb, 0, none⟩) (.inl (by simp)) (.int .i64 t.k))
          have HV3 := Lib.hid (show Upd [tb] W1 ((W1.setCell ⟨tb, 0, none⟩ (.int .i64 t.k)).setCell ⟨tb, 1, none⟩ (.string t.n)) by rw [← hX]; exact HV2.out)
          refine mix_start (n := 8) 8 (fun w' => ∃ p : Wd [tb] W1, w' = p.v) (by kernel_rfl) (by kernel_rfl) ?_
          refine mix_quiet [true, true, true, true, true] 3 rfl (by kernel_rfl) (by kernel_rfl) (by kernel_rfl) (by kernel_rfl) ⟨⟨_, (Upd.refl [tb] W1).drew⟩, rfl⟩ ?_
          simp only [maskL]
          repeat (go_big_quiet_step (fail))
          refine wpQuiet_nil ?_
          clear m0 mm1
          refine mix_one 5 (by kernel_rfl) (by kernel_rfl) rfl ?_
          intro K QF hK
          go_wp2_with fail
          refine hK _ _ ⟨⟨_, HV1.out.drew⟩, rfl⟩ ?_
          clear hK K QF
          refine mix_quiet [false, false, false, false, false, false, true] 1 rfl (by kernel_rfl) (by kernel_rfl) (by kernel_rfl) (by kernel_rfl) ⟨⟨_, HV1.out.drew⟩, rfl⟩ ?_
          simp only [maskL]
          repeat (go_big_quiet_step (fail))
          refine wpQuiet_nil ?_
          refine mix_one 7 (by kernel_rfl) (by kernel_rfl) rfl ?_
          intro K QF hK
          go_wp2_with fail
          refine hK _ _ ⟨⟨_, HV3.out.drew⟩, rfl⟩ ?_
          clear hK K QF
          refine mix_end (by kernel_rfl) ?_
          have HSV2 := Lib.hid (own_upd HSV1.out HV2.out (by simpa using own_ne HSV1.out HB1.out (by decide)))
          have HMV2 := Lib.hid (own_upd HMV1.out HV2.out (by simpa using own_ne HMV1.out HB1.out (by decide)))
          have HU2 := Lib.hid (HU1.out.trans HV2.out (U := t.x) (fun i hi => hi) (fun i hi => .inr (by simp at hi; subst hi; exact HTB1.out)))
          have HGA2 := Lib.hid (HKQ.out.2.2.upd HV2.out (by simp; exact HBT.out))
          clear HSV1 HMV1 HU1 HKQ
          obtain ⟨u, hu⟩ : ∃ u : TC, u = ⟨t.k, t.n, n0, wh s0, wl s0, wh wt0, wl wt0, As, smp0.length, cs, Am, mem0.length, cm⟩ := ⟨_, rfl⟩
          have HUC := Lib.hid hu
          have HUX := Lib.hid (show Upd (b1 :: t.x) W0 X from HU2.out.mono (fun i hi => .inl (List.mem_cons_of_mem _ hi)))
          have HPOST := Lib.hid (show ∀ v1 w4, w4.ownsRow w.heap.size TTal 9 v1 (done.length + 1) ((done.map (·.2)).flatMap TC.cells ++ u.cells) → Upd (Value.slice A done.length cA).ownBlock.toList (X.alloc (.cells u.cells.toArray TTal)).drew w4 → ∃ d l g s, TalInv w base a b0 b1 bw w.heap.size ts gs bd v1 w4 d l g s ∧ l.length = (l1 ++ l2).length from fun v1 w4 g1 g2 => by
            have hux := (HUX.out.alloc (.cells u.cells.toArray TTal)).drew
            have hua := ((Upd.refl [] X).alloc (.cells u.cells.toArray TTal)).drew
            obtain ⟨k1, k2, k3, k4, k5⟩ := HKEEP.out _ hux
            have hnr := own_ne_rng k2 k1
            have hlow := own_low k2
            have hold : ∀ b, own b ≠ .no → b ∉ (Value.slice A done.length cA).ownBlock.toList := fun b hb hm => by
              have h1 := (HA.out.lo b hb).2
              have h2 := hlow b hm
              omega
            have hou := HA.out.ot _ hout
            have hs := own_upd HSV2.out hua (by simp)
            have hm := own_upd HMV2.out hua (by simp)
            refine ⟨done ++ [(t, u)], l1 ++ l2, gs', b1 :: t.x ++ S, ⟨HPM.out u, k1.upd g2 hnr.1 hnr.2, ?_, fun q hq => ?_, fun s hs => ?_, k5.upd g2 (hold _ (by rw [HA.out.oa]; simp)), ?_, fun x => ?_, ?_, HSS.out, HND.out u ?_ ?_⟩, rfl⟩
            · rw [List.map_append, List.flatMap_append, List.length_append]
              simpa using g1
            · rcases List.mem_append.1 hq with hq | hq
              · have h0 := k3 q hq
                exact h0.upd g2 (fun g hg => hold g (by rw [(hou q.1 (HIN.out _ (.inl (List.mem_map_of_mem hq)))).2 g hg]; simp)) (fun g hg => own_ne2 k2 h0.1.mem (by decide) g hg)
              · simp only [List.mem_singleton] at hq
                subst hq
                have e := HDAT.out
                obtain ⟨e1, e2, e3, e4, e5, e6, e7⟩ := e
                refine ⟨⟨?_, ?_, ?_, ?_, ?_, ?_, ?_, ?_, ?_⟩, ?_⟩
                all_goals rw [HUC.out]
                · rfl
                · rfl
                · show n0 = t.tk.n
                  rw [e3, e2]
                · show wh s0 = wh (t.tk.sum _)
                  rw [HGS.out, e2]
                · show wl s0 = wl (t.tk.sum _)
                  rw [HGS.out, e2]
                · show wh wt0 = wh t.tk.wt
                  rw [e5, e2]
                · show wl wt0 = wl t.tk.wt
                  rw [e5, e2]
                · show w4.ownsRow base 2 1 (.slice As smp0.length cs) t.tk.smp.length (t.tk.smp.map (Value.int .i64))
                  rw [← e2, ← e6]
                  exact own_upd hs g2 (fun g hg => own_ne2 k2 hs (by decide) g hg)
                · show w4.ownsRow w.heap.size 9 1 (.slice Am mem0.length cm) t.tk.mem.length (t.tk.mem.map Value.string)
                  rw [← e2, ← e7]
                  exact own_mono (own_upd hm g2 (fun g hg => own_ne2 k2 hm (by decide) g hg)) (by have h2 := HI.out.up.size; have h3 := HUWS.out; omega)
                · exact HSX.out
            · have h0 := hou s (HIN.out _ (.inr hs))
              exact (k4 s hs).upd g2 (hold _ (by rw [h0.1]; simp)) (fun b hb => hold b (by rw [h0.2 b hb]; simp))
            · exact (HGA2.out.upd hua (by simp)).upd g2 (hold _ (by rw [show own b1 = _ from HA.out.o1]; simp))
            · rw [List.map_append]
              exact (HGN.out HK2.out) x
            · exact (HUP.out _ hux).trans g2 (fun i hi => hi) (fun i hi => .inr (hlow i hi))
            · rw [HUC.out]
              exact HSX.out
            · rw [HUC.out]
              exact fun g (hg : (Value.slice Am mem0.length cm).ownBlock = some g) => (own_low HMV2.out g (by simpa using hg)))
          have HNB := Lib.hid (HB.new X TTal u.cells)
          rw [show X.heap.size = W1.heap.size by rw [hX]; simp [World.setCell]] at HNB
          have HRO := Lib.hid (HKEEP.out _ (HUX.out.alloc (.cells u.cells.toArray TTal)).drew).2.1
          have HSB := Lib.hid (show w.heap.size ≤ (X.alloc (.cells u.cells.toArray TTal)).heap.size from by have := (HUX.out.alloc (.cells u.cells.toArray TTal)).size; have h2 := HI.out.up.size; have h3 := HUWS.out; omega)
          rw [hX, hu] at HNB HRO HSB HPOST
          simp only [TC.cells] at HNB HRO HSB
          clear hX hu
          go_wp2_with (at_builtin; go_must (refine wp_append1 w.heap.size 48 54 _ 9 112 (.slice A done.length cA) done.length ((done.map (·.2)).flatMap TC.cells) [.int .i64 t.k, .string t.n, .int .i64 n0, .int .i64 (wh s0), .int .u64 (wl s0), .int .i64 (wh wt0), .int .u64 (wl wt0), .slice As smp0.length cs, .slice Am mem0.length cm] _ rfl rfl (by kernel_rfl) infoTl rfl (by decide) (by decide) rfl rfl rfl (by simp [Value.oneCell']) HRO.out HNB.out.drew HSB.out (by have := HLEN.out; omega) ?_))
          intro v1 w4 hown4 hU4 hat4
          obtain ⟨B, cB, rfl, _, _, _⟩ := own_shape hown4
          have HINV := Lib.hid (HPOST.out _ _ hown4 hU4)
          clear hown4 hU4 hat4 HPOST
          go_wp2
          go_roundw
          case rel =>
            obtain ⟨d, l, g, s, hinv, hlen⟩ := HINV.out
            exact ⟨d, l, g, s, hinv⟩
          case measure =>
            obtain ⟨d, l, g, s, hinv, hlen⟩ := HINV.out
            rw [HLE.out, hinv.rg.left_eq, List.length_map, hlen]
            omega
      · simp only [TK.ty]
        have hna : ∀ W, (nilAhead 345 119 (.pointer (some ⟨tp, 0, none⟩)) "tumbler/agg.tell").run Tryz.prog W = .ok (some false) W := fun W => by kernel_rfl
        refine region_rel2 13 (by kernel_rfl) (by kernel_rfl) rfl (by kernel_rfl) (fun D aa W => ∃ x16 x17 x18 x19 x20 x21 x22 x23 x24 x25 x26 x27 x8 : Value, aa = { tmps := #[.pointer (some ⟨a, 0, none⟩), .map (some bw), undef, undef, .slice none 0 0, .slice A done.length cA, .pointer (some ⟨mb, 0, none⟩), (.iface 119 (.pointer (some ⟨tp, 0, none⟩))), x8, .map (some bw), .pointer (some ⟨w.heap.size, 0, none⟩), .tuple #[.bool true, (.agg #[.int .i64 t.k, .string t.n]), (.iface 119 (.pointer (some ⟨tp, 0, none⟩)))], .bool true, .tuple #[(.agg #[.int .i64 t.k, .string t.n]), (.iface 119 (.pointer (some ⟨tp, 0, none⟩)))], (.agg #[.int .i64 t.k, .string t.n]), (.iface 119 (.pointer (some ⟨tp, 0, none⟩))), x16, x17, x18, x19, x20, x21, x22, x23, x24, x25, x26, x27, u28, u29, u30, u31, u32, u33, u34, u35, u36, u37, u38, u39, u40, u41, u42, u43, u44, u45, u46, u47, u48, undef, undef, undef], defers := [] } ∧ Upd t.x W0 W ∧ (D 0 = true → x16 = (.iface 119 (.pointer (some ⟨tp, 0, none⟩)))) ∧ (D 1 = true → x17 = .pointer (some ⟨a, 0, none⟩)) ∧ (D 2 = true → x18 = .pointer (some ⟨a, 0, none⟩)) ∧ (D 3 = true → x19 = .pointer (some ⟨a, 1, none⟩)) ∧ (D 4 = true → x20 = .map (some b1)) ∧ (D 5 = true → x21 = .pointer (some ⟨mb, 1, none⟩)) ∧ (D 6 = true → x22 = .string t.n) ∧ (D 7 = true → x23 = wide gb) ∧ (D 8 = true → x24 = .func (.method "tumbler/agg.tell") #[(.iface 119 (.pointer (some ⟨tp, 0, none⟩)))] #[]) ∧ (D 9 = true → x25 = .func (.method "tumbler/agg.tell") #[(.iface 119 (.pointer (some ⟨tp, 0, none⟩)))] #[]) ∧ (D 10 = true → x26 = (.iface 119 (.pointer (some ⟨tp, 0, none⟩)))) ∧ (D 11 = true → TelR base t.x W0 W n0 s0 wt0 smp0 mem0 x27) ∧ (D 12 = true → Blk W0 W TTal tal0 x8) ∧ ((D 11 = false → Upd [] W0 W))) ⟨_, _, _, _, _, _, _, _, _, _, _, _, _, rfl, (Upd.refl _ _).drew, (fun h => by cases h), (fun h => by cases h), (fun h => by cases h), (fun h => by cases h), (fun h => by cases h), (fun h => by cases h), (fun h => by cases h), (fun h => by cases h), (fun h => by cases h), (fun h => by cases h), (fun h => by cases h), (fun h => by cases h), (fun h => by cases h), (fun _ => (Upd.refl _ _).drew)⟩ ?_ ?_
        · rintro D aa W i o ⟨x16, x17, x18, x19, x20, x21, x22, x23, x24, x25, x26, x27, x8, rfl, hU, h0, h1, h2, h3, h4, h5, h6, h7, h8, h9, h10, h11, h12, hE⟩ hi ho hDi hdep hcl
          match i with
          | 0 =>
            refine wpOp_via ho fun KK hK => ?_
            have HK := Lib.hid hK
            clear hK
            obtain rfl := Option.some.inj ho
            have HUW := Lib.hid hU
            clear hU
            go_wp2
            exact HK.out _ _ ⟨_, _, _, _, _, _, _, _, _, _, _, _, _, rfl, HUW.out, (fun _ => rfl), (by simpa using h1), (by simpa using h2), (by simpa using h3), (by simpa using h4), (by simpa using h5), (by simpa using h6), (by simpa using h7), (by simpa using h8), (by simpa using h9), (by simpa using h10), (fun h => h11 (by simpa using h)), (fun h => h12 (by simpa using h)), (fun h => hE (by simpa using h))⟩
          | 1 =>
            refine wpOp_via ho fun KK hK => ?_
            have HK := Lib.hid hK
            clear hK
            obtain rfl := Option.some.inj ho
            have HUW := Lib.hid hU
            clear hU
            go_wp2
            exact HK.out _ _ ⟨_, _, _, _, _, _, _, _, _, _, _, _, _, rfl, HUW.out, (by simpa using h0), (fun _ => rfl), (by simpa using h2), (by simpa using h3), (by simpa using h4), (by simpa using h5), (by simpa using h6), (by simpa using h7), (by simpa using h8), (by simpa using h9), (by simpa using h10), (fun h => h11 (by simpa using h)), (fun h => h12 (by simpa using h)), (fun h => hE (by simpa using h))⟩
          | 2 =>
            refine wpOp_via ho fun KK hK => ?_
            have HK := Lib.hid hK
            clear hK
            obtain rfl := Option.some.inj ho
            obtain rfl := h1 (hdep ⟨1, .data⟩ (by simp) rfl)
            have HUW := Lib.hid hU
            clear hU
            go_wp2
            exact HK.out _ _ ⟨_, _, _, _, _, _, _, _, _, _, _, _, _, rfl, HUW.out, (by simpa using h0), (fun _ => rfl), (fun _ => rfl), (by simpa using h3), (by simpa using h4), (by simpa using h5), (by simpa using h6), (by simpa using h7), (by simpa using h8), (by simpa using h9), (by simpa using h10), (fun h => h11 (by simpa using h)), (fun h => h12 (by simpa using h)), (fun h => hE (by simpa using h))⟩
          | 3 =>
            refine wpOp_via ho fun KK hK => ?_
            have HK := Lib.hid hK
            clear hK
            obtain rfl := Option.some.inj ho
            obtain rfl := h2 (hdep ⟨2, .data⟩ (by simp) rfl)
            have HUW := Lib.hid hU
            clear hU
            go_wp2
            exact HK.out _ _ ⟨_, _, _, _, _, _, _, _, _, _, _, _, _, rfl, HUW.out, (by simpa using h0), (by simpa using h1), (fun _ => rfl), (fun _ => rfl), (by simpa using h4), (by simpa using h5), (by simpa using h6), (by simpa using h7), (by simpa using h8), (by simpa using h9), (by simpa using h10), (fun h => h11 (by simpa using h)), (fun h => h12 (by simpa using h)), (fun h => hE (by simpa using h))⟩
          | 4 =>
            refine wpOp_via ho fun KK hK => ?_
            have HK := Lib.hid hK
            clear hK
            obtain rfl := Option.some.inj ho
            obtain rfl := h3 (hdep ⟨3, .data⟩ (by simp) rfl)
            have HUW := Lib.hid hU
            clear hU
            have s1 := (HQ.out _ HUW.out).2.1.cell (j := 1) rfl
            go_wp2
            exact HK.out _ _ ⟨_, _, _, _, _, _, _, _, _, _, _, _, _, rfl, HUW.out, (by simpa using h0), (by simpa using h1), (by simpa using h2), (fun _ => rfl), (fun _ => rfl), (by simpa using h5), (by simpa using h6), (by simpa using h7), (by simpa using h8), (by simpa using h9), (by simpa using h10), (fun h => h11 (by simpa using h)), (fun h => h12 (by simpa using h)), (fun h => hE (by simpa using h))⟩
          | 5 =>
            refine wpOp_via ho fun KK hK => ?_
            have HK := Lib.hid hK
            clear hK
            obtain rfl := Option.some.inj ho
            have HUW := Lib.hid hU
            clear hU
            go_wp2
            exact HK.out _ _ ⟨_, _, _, _, _, _, _, _, _, _, _, _, _, rfl, HUW.out, (by simpa using h0), (by simpa using h1), (by simpa using h2), (by simpa using h3), (by simpa using h4), (fun _ => rfl), (by simpa using h6), (by simpa using h7), (by simpa using h8), (by simpa using h9), (by simpa using h10), (fun h => h11 (by simpa using h)), (fun h => h12 (by simpa using h)), (fun h => hE (by simpa using h))⟩
          | 6 =>
            refine wpOp_via ho fun KK hK => ?_
            have HK := Lib.hid hK
            clear hK
            obtain rfl := Option.some.inj ho
            obtain rfl := h5 (hdep ⟨5, .data⟩ (by simp) rfl)
            have HUW := Lib.hid hU
            clear hU
            have s1 := (HQ.out _ HUW.out).1.cell (j := 1) rfl
            go_wp2
            exact HK.out _ _ ⟨_, _, _, _, _, _, _, _, _, _, _, _, _, rfl, HUW.out, (by simpa using h0), (by simpa using h1), (by simpa using h2), (by simpa using h3), (by simpa using h4), (fun _ => rfl), (fun _ => rfl), (by simpa using h7), (by simpa using h8), (by simpa using h9), (by simpa using h10), (fun h => h11 (by simpa using h)), (fun h => h12 (by simpa using h)), (fun h => hE (by simpa using h))⟩
          | 7 =>
            refine wpOp_via ho fun KK hK => ?_
            have HK := Lib.hid hK
            clear hK
            obtain rfl := Option.some.inj ho
            obtain rfl := h4 (hdep ⟨4, .data⟩ (by simp) rfl)
            obtain rfl := h6 (hdep ⟨6, .data⟩ (by simp) rfl)
            have HUW := Lib.hid hU
            clear hU
            have s1 := HLK.out _ HUW.out
            go_wp2
            exact HK.out _ _ ⟨_, _, _, _, _, _, _, _, _, _, _, _, _, rfl, HUW.out, (by simpa using h0), (by simpa using h1), (by simpa using h2), (by simpa using h3), (fun _ => rfl), (by simpa using h5), (fun _ => rfl), (fun _ => rfl), (by simpa using h8), (by simpa using h9), (by simpa using h10), (fun h => absurd (hcl 11 _ rfl (by simpa using h) ⟨7, .data⟩ (by simp) rfl) (by rw [hDi]; simp)), (fun h => h12 (by simpa using h)), (fun h => hE (by simpa using h))⟩
          | 8 =>
            refine wpOp_via ho fun KK hK => ?_
            have HK := Lib.hid hK
            clear hK
            obtain rfl := Option.some.inj ho
            obtain rfl := h0 (hdep ⟨0, .data⟩ (by simp) rfl)
            have HUW := Lib.hid hU
            clear hU
            go_wp2
            exact HK.out _ _ ⟨_, _, _, _, _, _, _, _, _, _, _, _, _, rfl, HUW.out, (fun _ => rfl), (by simpa using h1), (by simpa using h2), (by simpa using h3), (by simpa using h4), (by simpa using h5), (by simpa using h6), (by simpa using h7), (fun _ => rfl), (by simpa using h9), (by simpa using h10), (fun h => h11 (by simpa using h)), (fun h => h12 (by simpa using h)), (fun h => hE (by simpa using h))⟩
          | 9 =>
            refine wpOp_via ho fun KK hK => ?_
            have HK := Lib.hid hK
            clear hK
            obtain rfl := Option.some.inj ho
            obtain rfl := h8 (hdep ⟨8, .data⟩ (by simp) rfl)
            have HUW := Lib.hid hU
            clear hU
            go_wp2
            exact HK.out _ _ ⟨_, _, _, _, _, _, _, _, _, _, _, _, _, rfl, HUW.out, (by simpa using h0), (by simpa using h1), (by simpa using h2), (by simpa using h3), (by simpa using h4), (by simpa using h5), (by simpa using h6), (by simpa using h7), (fun _ => rfl), (fun _ => rfl), (by simpa using h10), (fun h => h11 (by simpa using h)), (fun h => h12 (by simpa using h)), (fun h => hE (by simpa using h))⟩
          | 10 =>
            refine wpOp_via ho fun KK hK => ?_
            have HK := Lib.hid hK
            clear hK
            obtain rfl := Option.some.inj ho
            obtain rfl := h0 (hdep ⟨0, .data⟩ (by simp) rfl)
            have HUW := Lib.hid hU
            clear hU
            go_wp2
            exact HK.out _ _ ⟨_, _, _, _, _, _, _, _, _, _, _, _, _, rfl, HUW.out, (fun _ => rfl), (by simpa using h1), (by simpa using h2), (by simpa using h3), (by simpa using h4), (by simpa using h5), (by simpa using h6), (by simpa using h7), (by simpa using h8), (by simpa using h9), (fun _ => rfl), (fun h => absurd (hcl 11 _ rfl (by simpa using h) ⟨10, .data⟩ (by simp) rfl) (by rw [hDi]; simp)), (fun h => h12 (by simpa using h)), (fun h => hE (by simpa using h))⟩
          | 11 =>
            refine wpOp_via ho fun KK hK => ?_
            have HK := Lib.hid hK
            clear hK
            obtain rfl := Option.some.inj ho
            obtain rfl := h10 (hdep ⟨10, .data⟩ (by simp) rfl)
            obtain rfl := h7 (hdep ⟨7, .data⟩ (by simp) rfl)
            have HUW := Lib.hid hU
            clear hU
            have hE0 := HTL.out _ (hE hDi)
            go_wp2_with fail
            refine hE0.mono ?_
            rintro e w6 ⟨sv, mv, rfl, g1, g2, g3, g4⟩
            have hx : TelR base t.x W0 w6 n0 s0 wt0 smp0 mem0 (.agg (tallyC 0 ⟨#[]⟩ n0 s0 wt0 sv mv).toArray) := ⟨sv, mv, rfl, g1, own_mono g2 HUW.out.size, g3⟩
            have hUF : Upd t.x W0 w6 := HUW.out.then g4
            have hG : ∃ S, Upd S W w6 ∧ ∀ i ∈ S, i < W0.heap.size := ⟨t.x, g4, HXL.out⟩
            have HX := Lib.hid hx
            have HUF := Lib.hid hUF
            have HG := Lib.hid hG
            clear hx hUF hG g1 g2 g3 g4 hE0
            go_wp2
            have hx := HX.out
            have hUF := HUF.out
            have hG := HG.out
            exact HK.out _ _ ⟨_, _, _, _, _, _, _, _, _, _, _, _, _, rfl, hUF, (by simpa using h0), (by simpa using h1), (by simpa using h2), (by simpa using h3), (by simpa using h4), (by simpa using h5), (by simpa using h6), (fun _ => rfl), (by simpa using h8), (by simpa using h9), (fun _ => rfl), (fun _ => hx), (fun h => Blk.upd0_g (h12 (by simpa using h)) hG), (fun h => by simp at h)⟩
          | 12 =>
            refine wpOp_via ho fun KK hK => ?_
            have HK := Lib.hid hK
            clear hK
            obtain rfl := Option.some.inj ho
            have HUW := Lib.hid hU
            clear hU
            have hx : Blk W0 (W.alloc (.cells tal0.toArray TTal)) TTal tal0 (.pointer (some ⟨W.heap.size, 0, none⟩)) := ⟨_, rfl, HUW.out.size, HB.new W _ _⟩
            have hU1 := (Upd.refl [] W).alloc (.cells tal0.toArray TTal)
            go_wp2
            exact HK.out _ _ ⟨_, _, _, _, _, _, _, _, _, _, _, _, _, rfl, HUW.out.then0 hU1, (by simpa using h0), (by simpa using h1), (by simpa using h2), (by simpa using h3), (by simpa using h4), (by simpa using h5), (by simpa using h6), (by simpa using h7), (by simpa using h8), (by simpa using h9), (by simpa using h10), (fun h => TelR.upd0 (h11 (by simpa using h)) hU1), (fun _ => hx), (fun h => (hE (by simpa using h)).then hU1)⟩
          | i + 13 => omega
        · rintro D aa W o ⟨x16, x17, x18, x19, x20, x21, x22, x23, x24, x25, x26, x27, x8, rfl, hU, h0, h1, h2, h3, h4, h5, h6, h7, h8, h9, h10, h11, h12, hE⟩ hall ho
          refine wpOp_of_list ho ?_
          obtain rfl := Option.some.inj ho
          obtain rfl := h0 (hall 0 (by omega))
          obtain rfl := h1 (hall 1 (by omega))
          obtain rfl := h2 (hall 2 (by omega))
          obtain rfl := h3 (hall 3 (by omega))
          obtain rfl := h4 (hall 4 (by omega))
          obtain rfl := h5 (hall 5 (by omega))
          obtain rfl := h6 (hall 6 (by omega))
          obtain rfl := h7 (hall 7 (by omega))
          obtain rfl := h8 (hall 8 (by omega))
          obtain rfl := h9 (hall 9 (by omega))
          obtain rfl := h10 (hall 10 (by omega))
          have r11 := h11 (hall 11 (by omega))
          have r12 := h12 (hall 12 (by omega))
          obtain ⟨sv, mv, e1, hsv, hmv, hsx2⟩ := r11
          obtain rfl := e1
          obtain ⟨tb, e1, htb1, htb2⟩ := r12
          obtain rfl := e1
          obtain ⟨As, cs, rfl, _, _, _⟩ := own_shape hsv
          obtain ⟨Am, cm, rfl, _, _, _⟩ := own_shape hmv
          unfold tal0 at htb2
          have HSV := Lib.hid hsv
          have HMV := Lib.hid hmv
          have HSX := Lib.hid hsx2
          have HTB := Lib.hid htb2
          have HTB1 := Lib.hid htb1
          have HBT := Lib.hid (show b1 ≠ tb from fun e => by have := (HQ.out _ (Upd.refl _ _)).2.2.lt; omega)
          have HAT := Lib.hid (show a ≠ tb from fun e => by have := (HQ.out _ hU).2.1.lt; have := HQ.out _ (Upd.refl _ _); have := this.2.1.lt; omega)
          have HMT := Lib.hid (show mb ≠ tb from fun e => by have := (HQ.out _ hU).1.lt; have := (HMB.out.lt); omega)
          have HU5 := Lib.hid hU
          have t0 := htb2.cell (j := 0) rfl
          have f0 := htb2.free 0
          have t1 := htb2.cell (j := 1) rfl
          have f1 := htb2.free 1
          have t2 := htb2.cell (j := 2) rfl
          have f2 := htb2.free 2
          have t3 := htb2.cell (j := 3) rfl
          have f3 := htb2.free 3
          have t4 := htb2.cell (j := 4) rfl
          have f4 := htb2.free 4
          have t5 := htb2.cell (j := 5) rfl
          have f5 := htb2.free 5
          have t6 := htb2.cell (j := 6) rfl
          have f6 := htb2.free 6
          have t7 := htb2.cell (j := 7) rfl
          have f7 := htb2.free 7
          have t8 := htb2.cell (j := 8) rfl
          have f8 := htb2.free 8
          unfold tallyC
          clear hsv hmv htb2 hU hE hsx2 htb1
          go_wp2_with fail
          clear t0 t1 t2 t3 t4 t5 t6 t7 t8 f0 f1 f2 f3 f4 f5 f6 f7 f8 hna
          obtain ⟨W1, hW1⟩ : ∃ W1, W1 = put9 W tb (.int .i64 0) (.string ⟨#[]⟩) (.int .i64 n0) (.int .i64 (wh s0)) (.int .u64 (wl s0)) (.int .i64 (wh wt0)) (.int .u64 (wl wt0)) (.slice As smp0.length cs) (.slice Am mem0.length cm) := ⟨_, rfl⟩
          have hUp := put9_upd (S := [tb]) (Upd.refl [tb] W) (b := tb) (.inl (by simp)) (.int .i64 0) (.string ⟨#[]⟩) (.int .i64 n0) (.int .i64 (wh s0)) (.int .u64 (wl s0)) (.int .i64 (wh wt0)) (.int .u64 (wl wt0)) (.slice As smp0.length cs) (.slice Am mem0.length cm)
          have hB1 := put9_HB HTB.out (.int .i64 0) (.string ⟨#[]⟩) (.int .i64 n0) (.int .i64 (wh s0)) (.int .u64 (wl s0)) (.int .i64 (wh wt0)) (.int .u64 (wl wt0)) (.slice As smp0.length cs) (.slice Am mem0.length cm)
          rw [← hW1] at hUp hB1
          unfold put9 at hW1
          rw [← hW1]
          have HTBU := Lib.hid (show tb ∉ t.x from fun hm => by have := HXL.out _ hm; have := HTB1.out; omega)
          have HU1 := Lib.hid (show Upd t.x W0 W1 from HU5.out.trans hUp (fun _ h => h) (fun i hi => .inr (by simp at hi; subst hi; exact HTB1.out)))
          have HSV1 := Lib.hid (own_upd HSV.out hUp (by simpa using own_ne HSV.out HTB.out (by decide)))
          have HMV1 := Lib.hid (own_upd HMV.out hUp (by simpa using own_ne HMV.out HTB.out (by decide)))
          have HB1 := Lib.hid hB1
          have HKQ := Lib.hid (HQ.out W1 HU1.out)
          clear hW1 hUp hB1 HSV HMV HTB HU5
          have m0 := fun q : Wd [tb] W1 => q.h.cell (HKQ.out.1.cell (j := 0) rfl) (by simp; exact HMT.out)
          have mm1 := fun q : Wd [tb] W1 => q.h.cell (HKQ.out.1.cell (j := 1) rfl) (by simp; exact HMT.out)
          have hV2 := ((Upd.refl [tb] W1).setCell (p := ⟨tb, 0, none⟩) (.inl (by simp)) (.int .i64 t.k)).setCell (p := ⟨tb, 1, none⟩) (.inl (by simp)) (.string t.n)
          have hB2 := (HB1.out.set 0 (.int .i64 t.k)).set 1 (.string t.n)
          have c0 := hV2.cell (HKQ.out.1.cell (j := 0) rfl) (by simp; exact HMT.out)
          have c1 := hV2.cell (HKQ.out.1.cell (j := 1) rfl) (by simp; exact HMT.out)
          have c2 := hV2.cell (HKQ.out.2.1.cell (j := 1) rfl) (by simp; exact HAT.out)
          have g0 := HB1.out.free 0
          have g1 := HB1.out.free 1
          have d0 := HB1.out.cell (j := 0) rfl
          have d1 := HB1.out.cell (j := 1) rfl
          have t0 := hB2.cell (j := 0) rfl
          have f0 := hB2.free 0
          have t1 := hB2.cell (j := 1) rfl
          have f1 := hB2.free 1
          have t2 := hB2.cell (j := 2) rfl
          have f2 := hB2.free 2
          have t3 := hB2.cell (j := 3) rfl
          have f3 := hB2.free 3
          have t4 := hB2.cell (j := 4) rfl
          have f4 := hB2.free 4
          have t5 := hB2.cell (j := 5) rfl
          have f5 := hB2.free 5
          have t6 := hB2.cell (j := 6) rfl
          have f6 := hB2.free 6
          have t7 := hB2.cell (j := 7) rfl
          have f7 := hB2.free 7
          have t8 := hB2.cell (j := 8) rfl
          have f8 := hB2.free 8
          clear f0 f1 f2 f3 f4 f5 f6 f7 f8
          obtain ⟨X, hX⟩ : ∃ X, X = (W1.setCell ⟨tb, 0, none⟩ (.int .i64 t.k)).setCell ⟨tb, 1, none⟩ (.string t.n) := ⟨_, rfl⟩
          rw [← hX] at hV2 hB2
          have HV2 := Lib.hid hV2
          have HB2 := Lib.hid hB2
          have HX := Lib.hid hX
          have HK2 := Lib.hid (show t.k = 2 by rw [← HKD.out]; simp [TK.kind])
          have hk2 : (t.k == 2) = true := by rw [← HKD.out]; rfl
          clear hV2 hB2
          have HV1 := Lib.hid ((Upd.refl [tb] W1).setCell (p := ⟨tb, 0, none⟩) (.inl (by simp)) (.int .i64 t.k))
          have HV3 := Lib.hid (show Upd [tb] W1 ((W1.setCell ⟨tb, 0, none⟩ (.int .i64 t.k)).setCell ⟨tb, 1, none⟩ (.string t.n)) by rw [← hX]; exact HV2.out)
          refine mix_start (n := 8) 8 (fun w' => ∃ p : Wd [tb] W1, w' = p.v) (by kernel_rfl) (by kernel_rfl) ?_
          refine mix_quiet [true, true, true, true, true] 3 rfl (by kernel_rfl) (by kernel_rfl) (by kernel_rfl) (by kernel_rfl) ⟨⟨_, (Upd.refl [tb] W1).drew⟩, rfl⟩ ?_
          simp only [maskL]
          repeat (go_big_quiet_step (fail))
          refine wpQuiet_nil ?_
          clear m0 mm1
          refine mix_one 5 (by kernel_rfl) (by kernel_rfl) rfl ?_
          intro K QF hK
          go_wp2_with fail
          refine hK _ _ ⟨⟨_, HV1.out.drew⟩, rfl⟩ ?_
          clear hK K QF
          refine mix_quiet [false, false, false, false, false, false, true] 1 rfl (by kernel_rfl) (by kernel_rfl) (by kernel_rfl) (by kernel_rfl) ⟨⟨_, HV1.out.drew⟩, rfl⟩ ?_
          simp only [maskL]
          repeat (go_big_quiet_step (fail))
          refine wpQuiet_nil ?_
          refine mix_one 7 (by kernel_rfl) (by kernel_rfl) rfl ?_
          intro K QF hK
          go_wp2_with fail
          refine hK _ _ ⟨⟨_, HV3.out.drew⟩, rfl⟩ ?_
          clear hK K QF
          refine mix_end (by kernel_rfl) ?_
          have HSV2 := Lib.hid (own_upd HSV1.out HV2.out (by simpa using own_ne HSV1.out HB1.out (by decide)))
          have HMV2 := Lib.hid (own_upd HMV1.out HV2.out (by simpa using own_ne HMV1.out HB1.out (by decide)))
          have HU2 := Lib.hid (HU1.out.trans HV2.out (U := t.x) (fun i hi => hi) (fun i hi => .inr (by simp at hi; subst hi; exact HTB1.out)))
          have HGA2 := Lib.hid (HKQ.out.2.2.upd HV2.out (by simp; exact HBT.out))
          clear HSV1 HMV1 HU1 HKQ
          go_wp2_with fail
          clear hk2 t0 t1 t2 t5 t6 t7 t8
          rw [← hX]
          rw [← hX] at c0 c1 c2 t3 t4
          clear hX
          obtain ⟨Y, hY⟩ : ∃ Y, Y = X.drew := ⟨_, rfl⟩
          have hXY : Upd [] X Y := by rw [hY]; exact (Upd.refl [] X).drew
          rw [← hY]
          clear hY
          have k1 := fun q : Wd [] Y => q.h.cell (hXY.cell c1 (by simp)) (by simp)
          have k2 := fun q : Wd [] Y => q.h.cell (hXY.cell c2 (by simp)) (by simp)
          have k3 := fun q : Wd [] Y => q.h.cell (hXY.cell t3 (by simp)) (by simp)
          have k4 := fun q : Wd [] Y => q.h.cell (hXY.cell t4 (by simp)) (by simp)
          have hXD := hXY.drew
          obtain ⟨W3, hrun, hM3, hU3⟩ := run_update (P := Tryz.prog) klS Tryz.underlying74 (HGA2.out.upd hXD (by simp)) t.n (wide s0)
          obtain ⟨gs2, hp2, hg2⟩ := put_gl t.n s0 gs'
          rw [hp2] at hM3
          have hX3 : Upd [b1] X W3 := hXD.of0.then hU3
          have HB3 := Lib.hid (HB2.out.upd hX3 (by simp; exact fun e => HBT.out e.symm))
          have HSV3 := Lib.hid (own_upd HSV2.out hX3 (fun g hg hm => hbx (by simp at hm; subst hm; exact HSX.out _ hg)))
          have HMV3 := Lib.hid (own_upd HMV2.out hX3 (fun g hg hm => by have h1 := own_low HMV2.out g (by simpa using hg); have h2 := (HQ.out _ (Upd.refl _ _)).2.2.lt; simp at hm; omega))
          have HM3 := Lib.hid hM3
          have HU3 := Lib.hid hU3
          have HG2 := Lib.hid hg2
          have HUX := Lib.hid (show Upd (b1 :: t.x) W0 W3 from HU2.out.trans hX3 (fun i hi => List.mem_cons_of_mem _ hi) (fun i hi => .inl (by simp at hi; subst hi; simp)))
          clear hXY hXD hM3 hU3 hX3 hp2 hg2 c0 c1 c2 t3 t4
          refine mix_start (n := 9) 8 (fun w' => ∃ p : Wd [] Y, w' = p.v) (by kernel_rfl) (by kernel_rfl) ?_
          refine mix_quiet [true, true, true, true, true, true, true, true] 1 rfl (by kernel_rfl) (by kernel_rfl) (by kernel_rfl) (by kernel_rfl) ⟨⟨_, (Upd.refl [] Y).drew⟩, rfl⟩ ?_
          simp only [maskL]
          repeat (go_big_quiet_step (fail))
          refine wpQuiet_nil ?_
          clear k1 k2 k3 k4
          unfold wide at hrun
          refine mix_tail (by kernel_rfl) (by kernel_rfl) ?_
          simp only [List.drop_succ_cons, List.drop_zero]
          have t0 := HB3.out.cell (j := 0) rfl
          have f0 := HB3.out.free 0
          have t1 := HB3.out.cell (j := 1) rfl
          have f1 := HB3.out.free 1
          have t2 := HB3.out.cell (j := 2) rfl
          have f2 := HB3.out.free 2
          have t3 := HB3.out.cell (j := 3) rfl
          have f3 := HB3.out.free 3
          have t4 := HB3.out.cell (j := 4) rfl
          have f4 := HB3.out.free 4
          have t5 := HB3.out.cell (j := 5) rfl
          have f5 := HB3.out.free 5
          have t6 := HB3.out.cell (j := 6) rfl
          have f6 := HB3.out.free 6
          have t7 := HB3.out.cell (j := 7) rfl
          have f7 := HB3.out.free 7
          have t8 := HB3.out.cell (j := 8) rfl
          have f8 := HB3.out.free 8
          clear f0 f1 f2 f3 f4 f5 f6 f7 f8
          obtain ⟨u, hu⟩ : ∃ u : TC, u = ⟨t.k, t.n, n0, wh s0, wl s0, wh wt0, wl wt0, As, smp0.length, cs, Am, mem0.length, cm⟩ := ⟨_, rfl⟩
          have HUC := Lib.hid hu
          have HPOST := Lib.hid (show ∀ v1 w4, w4.ownsRow w.heap.size TTal 9 v1 (done.length + 1) ((done.map (·.2)).flatMap TC.cells ++ u.cells) → Upd (Value.slice A done.length cA).ownBlock.toList (W3.alloc (.cells u.cells.toArray TTal)) w4 → ∃ d l g s, TalInv w base a b0 b1 bw w.heap.size ts gs bd v1 w4 d l g s ∧ l.length = (l1 ++ l2).length from fun v1 w4 g1 g2 => by
            have hux := (HUX.out.alloc (.cells u.cells.toArray TTal))
            have hua := ((Upd.refl [] W3).alloc (.cells u.cells.toArray TTal))
            obtain ⟨k1, k2, k3, k4, k5⟩ := HKEEP.out _ hux
            have hnr := own_ne_rng k2 k1
            have hlow := own_low k2
            have hold : ∀ b, own b ≠ .no → b ∉ (Value.slice A done.length cA).ownBlock.toList := fun b hb hm => by
              have h1 := (HA.out.lo b hb).2
              have h2 := hlow b hm
              omega
            have hou := HA.out.ot _ hout
            have hs := own_upd HSV3.out hua (by simp)
            have hm := own_upd HMV3.out hua (by simp)
            refine ⟨done ++ [(t, u)], l1 ++ l2, gs2, b1 :: t.x ++ S, ⟨HPM.out u, k1.upd g2 hnr.1 hnr.2, ?_, fun q hq => ?_, fun s hs => ?_, k5.upd g2 (hold _ (by rw [HA.out.oa]; simp)), ?_, fun x => ?_, ?_, HSS.out, HND.out u ?_ ?_⟩, rfl⟩
            · rw [List.map_append, List.flatMap_append, List.length_append]
              simpa using g1
            · rcases List.mem_append.1 hq with hq | hq
              · have h0 := k3 q hq
                exact h0.upd g2 (fun g hg => hold g (by rw [(hou q.1 (HIN.out _ (.inl (List.mem_map_of_mem hq)))).2 g hg]; simp)) (fun g hg => own_ne2 k2 h0.1.mem (by decide) g hg)
              · simp only [List.mem_singleton] at hq
                subst hq
                have e := HDAT.out
                obtain ⟨e1, e2, e3, e4, e5, e6, e7⟩ := e
                refine ⟨⟨?_, ?_, ?_, ?_, ?_, ?_, ?_, ?_, ?_⟩, ?_⟩
                all_goals rw [HUC.out]
                · rfl
                · rfl
                · show n0 = t.tk.n
                  rw [e3, e2]
                · show wh s0 = wh (t.tk.sum _)
                  rw [HGS.out, e2]
                · show wl s0 = wl (t.tk.sum _)
                  rw [HGS.out, e2]
                · show wh wt0 = wh t.tk.wt
                  rw [e5, e2]
                · show wl wt0 = wl t.tk.wt
                  rw [e5, e2]
                · show w4.ownsRow base 2 1 (.slice As smp0.length cs) t.tk.smp.length (t.tk.smp.map (Value.int .i64))
                  rw [← e2, ← e6]
                  exact own_upd hs g2 (fun g hg => own_ne2 k2 hs (by decide) g hg)
                · show w4.ownsRow w.heap.size 9 1 (.slice Am mem0.length cm) t.tk.mem.length (t.tk.mem.map Value.string)
                  rw [← e2, ← e7]
                  exact own_mono (own_upd hm g2 (fun g hg => own_ne2 k2 hm (by decide) g hg)) (by have h2 := HI.out.up.size; have h3 := HUWS.out; omega)
                · exact HSX.out
            · have h0 := hou s (HIN.out _ (.inr hs))
              exact (k4 s hs).upd g2 (hold _ (by rw [h0.1]; simp)) (fun b hb => hold b (by rw [h0.2 b hb]; simp))
            · exact (HM3.out.upd hua (by simp)).upd g2 (hold _ (by rw [show own b1 = _ from HA.out.o1]; simp))
            · rw [List.map_append]
              exact (HGG.out HK2.out gs2 HG2.out) x
            · exact (HUP.out _ hux).trans g2 (fun i hi => hi) (fun i hi => .inr (hlow i hi))
            · rw [HUC.out]
              exact HSX.out
            · rw [HUC.out]
              exact fun g (hg : (Value.slice Am mem0.length cm).ownBlock = some g) => (own_low HMV3.out g (by simpa using hg)))
          have HNB := Lib.hid (HB.new W3 TTal u.cells)
          have HRO := Lib.hid (HKEEP.out _ (HUX.out.alloc (.cells u.cells.toArray TTal))).2.1
          have HSB := Lib.hid (show w.heap.size ≤ (W3.alloc (.cells u.cells.toArray TTal)).heap.size from by have := (HUX.out.alloc (.cells u.cells.toArray TTal)).size; have h2 := HI.out.up.size; have h3 := HUWS.out; omega)
          rw [hu] at HNB HRO HSB HPOST
          simp only [TC.cells] at HNB HRO HSB
          clear hu
          go_wp2_with (at_builtin; go_must (refine wp_append1 w.heap.size 48 54 _ 9 112 (.slice A done.length cA) done.length ((done.map (·.2)).flatMap TC.cells) [.int .i64 t.k, .string t.n, .int .i64 n0, .int .i64 (wh s0), .int .u64 (wl s0), .int .i64 (wh wt0), .int .u64 (wl wt0), .slice As smp0.length cs, .slice Am mem0.length cm] _ rfl rfl (by kernel_rfl) infoTl rfl (by decide) (by decide) rfl rfl rfl (by simp [Value.oneCell']) HRO.out HNB.out HSB.out (by have := HLEN.out; omega) ?_))
          intro v1 w4 hown4 hU4 hat4
          obtain ⟨B, cB, rfl, _, _, _⟩ := own_shape hown4
          have HINV := Lib.hid (HPOST.out _ _ hown4 hU4)
          clear hown4 hU4 hat4 HPOST
          go_wp2
          go_roundw
          case rel =>
            obtain ⟨d, l, g, s, hinv, hlen⟩ := HINV.out
            exact ⟨d, l, g, s, hinv⟩
          case measure =>
            obtain ⟨d, l, g, s, hinv, hlen⟩ := HINV.out
            rw [HLE.out, hinv.rg.left_eq, List.length_map, hlen]
            omega
      · simp only [TK.ty]
        have hna : ∀ W, (nilAhead 345 122 (.pointer (some ⟨tp, 0, none⟩)) "tumbler/agg.tell").run Tryz.prog W = .ok (some false) W := fun W => by kernel_rfl
        refine region_rel2 13 (by kernel_rfl) (by kernel_rfl) rfl (by kernel_rfl) (fun D aa W => ∃ x16 x17 x18 x19 x20 x21 x22 x23 x24 x25 x26 x27 x8 : Value, aa = { tmps := #[.pointer (some ⟨a, 0, none⟩), .map (some bw), undef, undef, .slice none 0 0, .slice A done.length cA, .pointer (some ⟨mb, 0, none⟩), (.iface 122 (.pointer (some ⟨tp, 0, none⟩))), x8, .map (some bw), .pointer (some ⟨w.heap.size, 0, none⟩), .tuple #[.bool true, (.agg #[.int .i64 t.k, .string t.n]), (.iface 122 (.pointer (some ⟨tp, 0, none⟩)))], .bool true, .tuple #[(.agg #[.int .i64 t.k, .string t.n]), (.iface 122 (.pointer (some ⟨tp, 0, none⟩)))], (.agg #[.int .i64 t.k, .string t.n]), (.iface 122 (.pointer (some ⟨tp, 0, none⟩))), x16, x17, x18, x19, x20, x21, x22, x23, x24, x25, x26, x27, u28, u29, u30, u31, u32, u33, u34, u35, u36, u37, u38, u39, u40, u41, u42, u43, u44, u45, u46, u47, u48, undef, undef, undef], defers := [] } ∧ Upd t.x W0 W ∧ (D 0 = true → x16 = (.iface 122 (.pointer (some ⟨tp, 0, none⟩)))) ∧ (D 1 = true → x17 = .pointer (some ⟨a, 0, none⟩)) ∧ (D 2 = true → x18 = .pointer (some ⟨a, 0, none⟩)) ∧ (D 3 = true → x19 = .pointer (some ⟨a, 1, none⟩)) ∧ (D 4 = true → x20 = .map (some b1)) ∧ (D 5 = true → x21 = .pointer (some ⟨mb, 1, none⟩)) ∧ (D 6 = true → x22 = .string t.n) ∧ (D 7 = true → x23 = wide gb) ∧ (D 8 = true → x24 = .func (.method "tumbler/agg.tell") #[(.iface 122 (.pointer (some ⟨tp, 0, none⟩)))] #[]) ∧ (D 9 = true → x25 = .func (.method "tumbler/agg.tell") #[(.iface 122 (.pointer (some ⟨tp, 0, none⟩)))] #[]) ∧ (D 10 = true → x26 = (.iface 122 (.pointer (some ⟨tp, 0, none⟩)))) ∧ (D 11 = true → TelR base t.x W0 W n0 s0 wt0 smp0 mem0 x27) ∧ (D 12 = true → Blk W0 W TTal tal0 x8) ∧ ((D 11 = false → Upd [] W0 W))) ⟨_, _, _, _, _, _, _, _, _, _, _, _, _, rfl, (Upd.refl _ _).drew, (fun h => by cases h), (fun h => by cases h), (fun h => by cases h), (fun h => by cases h), (fun h => by cases h), (fun h => by cases h), (fun h => by cases h), (fun h => by cases h), (fun h => by cases h), (fun h => by cases h), (fun h => by cases h), (fun h => by cases h), (fun h => by cases h), (fun _ => (Upd.refl _ _).drew)⟩ ?_ ?_
        · rintro D aa W i o ⟨x16, x17, x18, x19, x20, x21, x22, x23, x24, x25, x26, x27, x8, rfl, hU, h0, h1, h2, h3, h4, h5, h6, h7, h8, h9, h10, h11, h12, hE⟩ hi ho hDi hdep hcl
          match i with
          | 0 =>
            refine wpOp_via ho fun KK hK => ?_
            have HK := Lib.hid hK
            clear hK
            obtain rfl := Option.some.inj ho
            have HUW := Lib.hid hU
            clear hU
            go_wp2
            exact HK.out _ _ ⟨_, _, _, _, _, _, _, _, _, _, _, _, _, rfl, HUW.out, (fun _ => rfl), (by simpa using h1), (by simpa using h2), (by simpa using h3), (by simpa using h4), (by simpa using h5), (by simpa using h6), (by simpa using h7), (by simpa using h8), (by simpa using h9), (by simpa using h10), (fun h => h11 (by simpa using h)), (fun h => h12 (by simpa using h)), (fun h => hE (by simpa using h))⟩
          | 1 =>
            refine wpOp_via ho fun KK hK => ?_
            have HK := Lib.hid hK
            clear hK
            obtain rfl := Option.some.inj ho
            have HUW := Lib.hid hU
            clear hU
            go_wp2
            exact HK.out _ _ ⟨_, _, _, _, _, _, _, _, _, _, _, _, _, rfl, HUW.out, (by simpa using h0), (fun _ => rfl), (by simpa using h2), (by simpa using h3), (by simpa using h4), (by simpa using h5), (by simpa using h6), (by simpa using h7), (by simpa using h8), (by simpa using h9), (by simpa using h10), (fun h => h11 (by simpa using h)), (fun h => h12 (by simpa using h)), (fun h => hE (by simpa using h))⟩
          | 2 =>
            refine wpOp_via ho fun KK hK => ?_
            have HK := Lib.hid hK
            clear hK
            obtain rfl := Option.some.inj ho
            obtain rfl := h1 (hdep ⟨1, .data⟩ (by simp) rfl)
            have HUW := Lib.hid hU
            clear hU
            go_wp2
            exact HK.out _ _ ⟨_, _, _, _, _, _, _, _, _, _, _, _, _, rfl, HUW.out, (by simpa using h0), (fun _ => rfl), (fun _ => rfl), (by simpa using h3), (by simpa using h4), (by simpa using h5), (by simpa using h6), (by simpa using h7), (by simpa using h8), (by simpa using h9), (by simpa using h10), (fun h => h11 (by simpa using h)), (fun h => h12 (by simpa using h)), (fun h => hE (by simpa using h))⟩
          | 3 =>
            refine wpOp_via ho fun KK hK => ?_
            have HK := Lib.hid hK
            clear hK
            obtain rfl := Option.some.inj ho
            obtain rfl := h2 (hdep ⟨2, .data⟩ (by simp) rfl)
            have HUW := Lib.hid hU
            clear hU
            go_wp2
            exact HK.out _ _ ⟨_, _, _, _, _, _, _, _, _, _, _, _, _, rfl, HUW.out, (by simpa using h0), (by simpa using h1), (fun _ => rfl), (fun _ => rfl), (by simpa using h4), (by simpa using h5), (by simpa using h6), (by simpa using h7), (by simpa using h8), (by simpa using h9), (by simpa using h10), (fun h => h11 (by simpa using h)), (fun h => h12 (by simpa using h)), (fun h => hE (by simpa using h))⟩
          | 4 =>
            refine wpOp_via ho fun KK hK => ?_
            have HK := Lib.hid hK
            clear hK
            obtain rfl := Option.some.inj ho
            obtain rfl := h3 (hdep ⟨3, .data⟩ (by simp) rfl)
            have HUW := Lib.hid hU
            clear hU
            have s1 := (HQ.out _ HUW.out).2.1.cell (j := 1) rfl
            go_wp2
            exact HK.out _ _ ⟨_, _, _, _, _, _, _, _, _, _, _, _, _, rfl, HUW.out, (by simpa using h0), (by simpa using h1), (by simpa using h2), (fun _ => rfl), (fun _ => rfl), (by simpa using h5), (by simpa using h6), (by simpa using h7), (by simpa using h8), (by simpa using h9), (by simpa using h10), (fun h => h11 (by simpa using h)), (fun h => h12 (by simpa using h)), (fun h => hE (by simpa using h))⟩
          | 5 =>
            refine wpOp_via ho fun KK hK => ?_
            have HK := Lib.hid hK
            clear hK
            obtain rfl := Option.some.inj ho
            have HUW := Lib.hid hU
            clear hU
            go_wp2
            exact HK.out _ _ ⟨_, _, _, _, _, _, _, _, _, _, _, _, _, rfl, HUW.out, (by simpa using h0), (by simpa using h1), (by simpa using h2), (by simpa using h3), (by simpa using h4), (fun _ => rfl), (by simpa using h6), (by simpa using h7), (by simpa using h8), (by simpa using h9), (by simpa using h10), (fun h => h11 (by simpa using h)), (fun h => h12 (by simpa using h)), (fun h => hE (by simpa using h))⟩
          | 6 =>
            refine wpOp_via ho fun KK hK => ?_
            have HK := Lib.hid hK
            clear hK
            obtain rfl := Option.some.inj ho
            obtain rfl := h5 (hdep ⟨5, .data⟩ (by simp) rfl)
            have HUW := Lib.hid hU
            clear hU
            have s1 := (HQ.out _ HUW.out).1.cell (j := 1) rfl
            go_wp2
            exact HK.out _ _ ⟨_, _, _, _, _, _, _, _, _, _, _, _, _, rfl, HUW.out, (by simpa using h0), (by simpa using h1), (by simpa using h2), (by simpa using h3), (by simpa using h4), (fun _ => rfl), (fun _ => rfl), (by simpa using h7), (by simpa using h8), (by simpa using h9), (by simpa using h10), (fun h => h11 (by simpa using h)), (fun h => h12 (by simpa using h)), (fun h => hE (by simpa using h))⟩
          | 7 =>
            refine wpOp_via ho fun KK hK => ?_
            have HK := Lib.hid hK
            clear hK
            obtain rfl := Option.some.inj ho
            obtain rfl := h4 (hdep ⟨4, .data⟩ (by simp) rfl)
            obtain rfl := h6 (hdep ⟨6, .data⟩ (by simp) rfl)
            have HUW := Lib.hid hU
            clear hU
            have s1 := HLK.out _ HUW.out
            go_wp2
            exact HK.out _ _ ⟨_, _, _, _, _, _, _, _, _, _, _, _, _, rfl, HUW.out, (by simpa using h0), (by simpa using h1), (by simpa using h2), (by simpa using h3), (fun _ => rfl), (by simpa using h5), (fun _ => rfl), (fun _ => rfl), (by simpa using h8), (by simpa using h9), (by simpa using h10), (fun h => absurd (hcl 11 _ rfl (by simpa using h) ⟨7, .data⟩ (by simp) rfl) (by rw [hDi]; simp)), (fun h => h12 (by simpa using h)), (fun h => hE (by simpa using h))⟩
          | 8 =>
            refine wpOp_via ho fun KK hK => ?_
            have HK := Lib.hid hK
            clear hK
            obtain rfl := Option.some.inj ho
            obtain rfl := h0 (hdep ⟨0, .data⟩ (by simp) rfl)
            have HUW := Lib.hid hU
            clear hU
            go_wp2
            exact HK.out _ _ ⟨_, _, _, _, _, _, _, _, _, _, _, _, _, rfl, HUW.out, (fun _ => rfl), (by simpa using h1), (by simpa using h2), (by simpa using h3), (by simpa using h4), (by simpa using h5), (by simpa using h6), (by simpa using h7), (fun _ => rfl), (by simpa using h9), (by simpa using h10), (fun h => h11 (by simpa using h)), (fun h => h12 (by simpa using h)), (fun h => hE (by simpa using h))⟩
          | 9 =>
            refine wpOp_via ho fun KK hK => ?_
            have HK := Lib.hid hK
            clear hK
            obtain rfl := Option.some.inj ho
            obtain rfl := h8 (hdep ⟨8, .data⟩ (by simp) rfl)
            have HUW := Lib.hid hU
            clear hU
            go_wp2
            exact HK.out _ _ ⟨_, _, _, _, _, _, _, _, _, _, _, _, _, rfl, HUW.out, (by simpa using h0), (by simpa using h1), (by simpa using h2), (by simpa using h3), (by simpa using h4), (by simpa using h5), (by simpa using h6), (by simpa using h7), (fun _ => rfl), (fun _ => rfl), (by simpa using h10), (fun h => h11 (by simpa using h)), (fun h => h12 (by simpa using h)), (fun h => hE (by simpa using h))⟩
          | 10 =>
            refine wpOp_via ho fun KK hK => ?_
            have HK := Lib.hid hK
            clear hK
            obtain rfl := Option.some.inj ho
            obtain rfl := h0 (hdep ⟨0, .data⟩ (by simp) rfl)
            have HUW := Lib.hid hU
            clear hU
            go_wp2
            exact HK.out _ _ ⟨_, _, _, _, _, _, _, _, _, _, _, _, _, rfl, HUW.out, (fun _ => rfl), (by simpa using h1), (by simpa using h2), (by simpa using h3), (by simpa using h4), (by simpa using h5), (by simpa using h6), (by simpa using h7), (by simpa using h8), (by simpa using h9), (fun _ => rfl), (fun h => absurd (hcl 11 _ rfl (by simpa using h) ⟨10, .data⟩ (by simp) rfl) (by rw [hDi]; simp)), (fun h => h12 (by simpa using h)), (fun h => hE (by simpa using h))⟩
          | 11 =>
            refine wpOp_via ho fun KK hK => ?_
            have HK := Lib.hid hK
            clear hK
            obtain rfl := Option.some.inj ho
            obtain rfl := h10 (hdep ⟨10, .data⟩ (by simp) rfl)
            obtain rfl := h7 (hdep ⟨7, .data⟩ (by simp) rfl)
            have HUW := Lib.hid hU
            clear hU
            have hE0 := HTL.out _ (hE hDi)
            go_wp2_with fail
            refine hE0.mono ?_
            rintro e w6 ⟨sv, mv, rfl, g1, g2, g3, g4⟩
            have hx : TelR base t.x W0 w6 n0 s0 wt0 smp0 mem0 (.agg (tallyC 0 ⟨#[]⟩ n0 s0 wt0 sv mv).toArray) := ⟨sv, mv, rfl, g1, own_mono g2 HUW.out.size, g3⟩
            have hUF : Upd t.x W0 w6 := HUW.out.then g4
            have hG : ∃ S, Upd S W w6 ∧ ∀ i ∈ S, i < W0.heap.size := ⟨t.x, g4, HXL.out⟩
            have HX := Lib.hid hx
            have HUF := Lib.hid hUF
            have HG := Lib.hid hG
            clear hx hUF hG g1 g2 g3 g4 hE0
            go_wp2
            have hx := HX.out
            have hUF := HUF.out
            have hG := HG.out
            exact HK.out _ _ ⟨_, _, _, _, _, _, _, _, _, _, _, _, _, rfl, hUF, (by simpa using h0), (by simpa using h1), (by simpa using h2), (by simpa using h3), (by simpa using h4), (by simpa using h5), (by simpa using h6), (fun _ => rfl), (by simpa using h8), (by simpa using h9), (fun _ => rfl), (fun _ => hx), (fun h => Blk.upd0_g (h12 (by simpa using h)) hG), (fun h => by simp at h)⟩
          | 12 =>
            refine wpOp_via ho fun KK hK => ?_
            have HK := Lib.hid hK
            clear hK
            obtain rfl := Option.some.inj ho
            have HUW := Lib.hid hU
            clear hU
            have hx : Blk W0 (W.alloc (.cells tal0.toArray TTal)) TTal tal0 (.pointer (some ⟨W.heap.size, 0, none⟩)) := ⟨_, rfl, HUW.out.size, HB.new W _ _⟩
            have hU1 := (Upd.refl [] W).alloc (.cells tal0.toArray TTal)
            go_wp2
            exact HK.out _ _ ⟨_, _, _, _, _, _, _, _, _, _, _, _, _, rfl, HUW.out.then0 hU1, (by simpa using h0), (by simpa using h1), (by simpa using h2), (by simpa using h3), (by simpa using h4), (by simpa using h5), (by simpa using h6), (by simpa using h7), (by simpa using h8), (by simpa using h9), (by simpa using h10), (fun h => TelR.upd0 (h11 (by simpa using h)) hU1), (fun _ => hx), (fun h => (hE (by simpa using h)).then hU1)⟩
          | i + 13 => omega
        · rintro D aa W o ⟨x16, x17, x18, x19, x20, x21, x22, x23, x24, x25, x26, x27, x8, rfl, hU, h0, h1, h2, h3, h4, h5, h6, h7, h8, h9, h10, h11, h12, hE⟩ hall ho
          refine wpOp_of_list ho ?_
          obtain rfl := Option.some.inj ho
          obtain rfl := h0 (hall 0 (by omega))
          obtain rfl := h1 (hall 1 (by omega))
          obtain rfl := h2 (hall 2 (by omega))
          obtain rfl := h3 (hall 3 (by omega))
          obtain rfl := h4 (hall 4 (by omega))
          obtain rfl := h5 (hall 5 (by omega))
          obtain rfl := h6 (hall 6 (by omega))
          obtain rfl := h7 (hall 7 (by omega))
          obtain rfl := h8 (hall 8 (by omega))
          obtain rfl := h9 (hall 9 (by omega))
          obtain rfl := h10 (hall 10 (by omega))
          have r11 := h11 (hall 11 (by omega))
          have r12 := h12 (hall 12 (by omega))
          obtain ⟨sv, mv, e1, hsv, hmv, hsx2⟩ := r11
          obtain rfl := e1
          obtain ⟨tb, e1, htb1, htb2⟩ := r12
          obtain rfl := e1
          obtain ⟨As, cs, rfl, _, _, _⟩ := own_shape hsv
          obtain ⟨Am, cm, rfl, _, _, _⟩ := own_shape hmv
          unfold tal0 at htb2
          have HSV := Lib.hid hsv
          have HMV := Lib.hid hmv
          have HSX := Lib.hid hsx2
          have HTB := Lib.hid htb2
          have HTB1 := Lib.hid htb1
          have HBT := Lib.hid (show b1 ≠ tb from fun e => by have := (HQ.out _ (Upd.refl _ _)).2.2.lt; omega)
          have HAT := Lib.hid (show a ≠ tb from fun e => by have := (HQ.out _ hU).2.1.lt; have := HQ.out _ (Upd.refl _ _); have := this.2.1.lt; omega)
          have HMT := Lib.hid (show mb ≠ tb from fun e => by have := (HQ.out _ hU).1.lt; have := (HMB.out.lt); omega)
          have HU5 := Lib.hid hU
          have t0 := htb2.cell (j := 0) rfl
          have f0 := htb2.free 0
          have t1 := htb2.cell (j := 1) rfl
          have f1 := htb2.free 1
          have t2 := htb2.cell (j := 2) rfl
          have f2 := htb2.free 2
          have t3 := htb2.cell (j := 3) rfl
          have f3 := htb2.free 3
          have t4 := htb2.cell (j := 4) rfl
          have f4 := htb2.free 4
          have t5 := htb2.cell (j := 5) rfl
          have f5 := htb2.free 5
          have t6 := htb2.cell (j := 6) rfl
          have f6 := htb2.free 6
          have t7 := htb2.cell (j := 7) rfl
          have f7 := htb2.free 7
          have t8 := htb2.cell (j := 8) rfl
          have f8 := htb2.free 8
          unfold tallyC
          clear hsv hmv htb2 hU hE hsx2 htb1
          go_wp2_with fail
          clear t0 t1 t2 t3 t4 t5 t6 t7 t8 f0 f1 f2 f3 f4 f5 f6 f7 f8 hna
          obtain ⟨W1, hW1⟩ : ∃ W1, W1 = put9 W tb (.int .i64 0) (.string ⟨#[]⟩) (.int .i64 n0) (.int .i64 (wh s0)) (.int .u64 (wl s0)) (.int .i64 (wh wt0)) (.int .u64 (wl wt0)) (.slice As smp0.length cs) (.slice Am mem0.length cm) := ⟨_, rfl⟩
          have hUp := put9_upd (S := [tb]) (Upd.refl [tb] W) (b := tb) (.inl (by simp)) (.int .i64 0) (.string ⟨#[]⟩) (.int .i64 n0) (.int .i64 (wh s0)) (.int .u64 (wl s0)) (.int .i64 (wh wt0)) (.int .u64 (wl wt0)) (.slice As smp0.length cs) (.slice Am mem0.length cm)
          have hB1 := put9_HB HTB.out (.int .i64 0) (.string ⟨#[]⟩) (.int .i64 n0) (.int .i64 (wh s0)) (.int .u64 (wl s0)) (.int .i64 (wh wt0)) (.int .u64 (wl wt0)) (.slice As smp0.length cs) (.slice Am mem0.length cm)
          rw [← hW1] at hUp hB1
          unfold put9 at hW1
          rw [← hW1]
          have HTBU := Lib.hid (show tb ∉ t.x from fun hm => by have := HXL.out _ hm; have := HTB1.out; omega)
          have HU1 := Lib.hid (show Upd t.x W0 W1 from HU5.out.trans hUp (fun _ h => h) (fun i hi => .inr (by simp at hi; subst hi; exact HTB1.out)))
          have HSV1 := Lib.hid (own_upd HSV.out hUp (by simpa using own_ne HSV.out HTB.out (by decide)))
          have HMV1 := Lib.hid (own_upd HMV.out hUp (by simpa using own_ne HMV.out HTB.out (by decide)))
          have HB1 := Lib.hid hB1
          have HKQ := Lib.hid (HQ.out W1 HU1.out)
          clear hW1 hUp hB1 HSV HMV HTB HU5
          have m0 := fun q : Wd [tb] W1 => q.h.cell (HKQ.out.1.cell (j := 0) rfl) (by simp; exact HMT.out)
          have mm1 := fun q : Wd [tb] W1 => q.h.cell (HKQ.out.1.cell (j := 1) rfl) (by simp; exact HMT.out)
          have hV2 := ((Upd.refl [tb] W1).setCell (p := ⟨tb, 0, none⟩) (.inl (by simp)) (.int .i64 t.k)).setCell (p := ⟨tb, 1, none⟩) (.inl (by simp)) (.string t.n)
          have hB2 := (HB1.out.set 0 (.int .i64 t.k)).set 1 (.string t.n)
          have c0 := hV2.cell (HKQ.out.1.cell (j := 0) rfl) (by simp; exact HMT.out)
          have c1 := hV2.cell (HKQ.out.1.cell (j := 1) rfl) (by simp; exact HMT.out)
          have c2 := hV2.cell (HKQ.out.2.1.cell (j := 1) rfl) (by simp; exact HAT.out)
          have g0 := HB1.out.free 0
          have g1 := HB1.out.free 1
          have d0 := HB1.out.cell (j := 0) rfl
          have d1 := HB1.out.cell (j := 1) rfl
          have t0 := hB2.cell (j := 0) rfl
          have f0 := hB2.free 0
          have t1 := hB2.cell (j := 1) rfl
          have f1 := hB2.free 1
          have t2 := hB2.cell (j := 2) rfl
          have f2 := hB2.free 2
          have t3 := hB2.cell (j := 3) rfl
          have f3 := hB2.free 3
          have t4 := hB2.cell (j := 4) rfl
          have f4 := hB2.free 4
          have t5 := hB2.cell (j := 5) rfl
          have f5 := hB2.free 5
          have t6 := hB2.cell (j := 6) rfl
          have f6 := hB2.free 6
          have t7 := hB2.cell (j := 7) rfl
          have f7 := hB2.free 7
          have t8 := hB2.cell (j := 8) rfl
          have f8 := hB2.free 8
          clear f0 f1 f2 f3 f4 f5 f6 f7 f8
          obtain ⟨X, hX⟩ : ∃ X, X = (W1.setCell ⟨tb, 0, none⟩ (.int .i64 t.k)).setCell ⟨tb, 1, none⟩ (.string t.n) := ⟨_, rfl⟩
          rw [← hX] at hV2 hB2
          have HV2 := Lib.hid hV2
          have HB2 := Lib.hid hB2
          have HX := Lib.hid hX
          have HK2 := Lib.hid (show t.k ≠ 2 by rw [← HKD.out]; simp [TK.kind])
          have hk2 : (t.k == 2) = false := by rw [← HKD.out]; rfl
          clear hV2 hB2
          have HV1 := Lib.hid ((Upd.refl [tb] W1).setCell (p := ⟨tb, 0, none⟩) (.inl (by simp)) (.int .i64 t.k))
          have HV3 := Lib.hid (show Upd [tb] W1 ((W1.setCell ⟨tb, 0, none⟩ (.int .i64 t.k)).setCell ⟨tb, 1, none⟩ (.string t.n)) by rw [← hX]; exact HV2.out)
          refine mix_start (n := 8) 8 (fun w' => ∃ p : Wd [tb] W1, w' = p.v) (by kernel_rfl) (by kernel_rfl) ?_
          refine mix_quiet [true, true, true, true, true] 3 rfl (by kernel_rfl) (by kernel_rfl) (by kernel_rfl) (by kernel_rfl) ⟨⟨_, (Upd.refl [tb] W1).drew⟩, rfl⟩ ?_
          simp only [maskL]
          repeat (go_big_quiet_step (fail))
          refine wpQuiet_nil ?_
          clear m0 mm1
          refine mix_one 5 (by kernel_rfl) (by kernel_rfl) rfl ?_
          intro K QF hK
          go_wp2_with fail
          refine hK _ _ ⟨⟨_, HV1.out.drew⟩, rfl⟩ ?_
          clear hK K QF
          refine mix_quiet [false, false, false, false, false, false, true] 1 rfl (by kernel_rfl) (by kernel_rfl) (by kernel_rfl) (by kernel_rfl) ⟨⟨_, HV1.out.drew⟩, rfl⟩ ?_
          simp only [maskL]
          repeat (go_big_quiet_step (fail))
          refine wpQuiet_nil ?_
          refine mix_one 7 (by kernel_rfl) (by kernel_rfl) rfl ?_
          intro K QF hK
          go_wp2_with fail
          refine hK _ _ ⟨⟨_, HV3.out.drew⟩, rfl⟩ ?_
          clear hK K QF
          refine mix_end (by kernel_rfl) ?_
          have HSV2 := Lib.hid (own_upd HSV1.out HV2.out (by simpa using own_ne HSV1.out HB1.out (by decide)))
          have HMV2 := Lib.hid (own_upd HMV1.out HV2.out (by simpa using own_ne HMV1.out HB1.out (by decide)))
          have HU2 := Lib.hid (HU1.out.trans HV2.out (U := t.x) (fun i hi => hi) (fun i hi => .inr (by simp at hi; subst hi; exact HTB1.out)))
          have HGA2 := Lib.hid (HKQ.out.2.2.upd HV2.out (by simp; exact HBT.out))
          clear HSV1 HMV1 HU1 HKQ
          obtain ⟨u, hu⟩ : ∃ u : TC, u = ⟨t.k, t.n, n0, wh s0, wl s0, wh wt0, wl wt0, As, smp0.length, cs, Am, mem0.length, cm⟩ := ⟨_, rfl⟩
          have HUC := Lib.hid hu
          have HUX := Lib.hid (show Upd (b1 :: t.x) W0 X from HU2.out.mono (fun i hi => .inl (List.mem_cons_of_mem _ hi)))
          have HPOST := Lib.hid (show ∀ v1 w4, w4.ownsRow w.heap.size TTal 9 v1 (done.length + 1) ((done.map (·.2)).flatMap TC.cells ++ u.cells) → Upd (Value.slice A done.length cA).ownBlock.toList (X.alloc (.cells u.cells.toArray TTal)).drew w4 → ∃ d l g s, TalInv w base a b0 b1 bw w.heap.size ts gs bd v1 w4 d l g s ∧ l.length = (l1 ++ l2).length from fun v1 w4 g1 g2 => by
            have hux := (HUX.out.alloc (.cells u.cells.toArray TTal)).drew
            have hua := ((Upd.refl [] X).alloc (.cells u.cells.toArray TTal)).drew
            obtain ⟨k1, k2, k3, k4, k5⟩ := HKEEP.out _ hux
            have hnr := own_ne_rng k2 k1
            have hlow := own_low k2
            have hold : ∀ b, own b ≠ .no → b ∉ (Value.slice A done.length cA).ownBlock.toList := fun b hb hm => by
              have h1 := (HA.out.lo b hb).2
              have h2 := hlow b hm
              omega
            have hou := HA.out.ot _ hout
            have hs := own_upd HSV2.out hua (by simp)
            have hm := own_upd HMV2.out hua (by simp)
            refine ⟨done ++ [(t, u)], l1 ++ l2, gs', b1 :: t.x ++ S, ⟨HPM.out u, k1.upd g2 hnr.1 hnr.2, ?_, fun q hq => ?_, fun s hs => ?_, k5.upd g2 (hold _ (by rw [HA.out.oa]; simp)), ?_, fun x => ?_, ?_, HSS.out, HND.out u ?_ ?_⟩, rfl⟩
            · rw [List.map_append, List.flatMap_append, List.length_append]
              simpa using g1
            · rcases List.mem_append.1 hq with hq | hq
              · have h0 := k3 q hq
                exact h0.upd g2 (fun g hg => hold g (by rw [(hou q.1 (HIN.out _ (.inl (List.mem_map_of_mem hq)))).2 g hg]; simp)) (fun g hg => own_ne2 k2 h0.1.mem (by decide) g hg)
              · simp only [List.mem_singleton] at hq
                subst hq
                have e := HDAT.out
                obtain ⟨e1, e2, e3, e4, e5, e6, e7⟩ := e
                refine ⟨⟨?_, ?_, ?_, ?_, ?_, ?_, ?_, ?_, ?_⟩, ?_⟩
                all_goals rw [HUC.out]
                · rfl
                · rfl
                · show n0 = t.tk.n
                  rw [e3, e2]
                · show wh s0 = wh (t.tk.sum _)
                  rw [HGS.out, e2]
                · show wl s0 = wl (t.tk.sum _)
                  rw [HGS.out, e2]
                · show wh wt0 = wh t.tk.wt
                  rw [e5, e2]
                · show wl wt0 = wl t.tk.wt
                  rw [e5, e2]
                · show w4.ownsRow base 2 1 (.slice As smp0.length cs) t.tk.smp.length (t.tk.smp.map (Value.int .i64))
                  rw [← e2, ← e6]
                  exact own_upd hs g2 (fun g hg => own_ne2 k2 hs (by decide) g hg)
                · show w4.ownsRow w.heap.size 9 1 (.slice Am mem0.length cm) t.tk.mem.length (t.tk.mem.map Value.string)
                  rw [← e2, ← e7]
                  exact own_mono (own_upd hm g2 (fun g hg => own_ne2 k2 hm (by decide) g hg)) (by have h2 := HI.out.up.size; have h3 := HUWS.out; omega)
                · exact HSX.out
            · have h0 := hou s (HIN.out _ (.inr hs))
              exact (k4 s hs).upd g2 (hold _ (by rw [h0.1]; simp)) (fun b hb => hold b (by rw [h0.2 b hb]; simp))
            · exact (HGA2.out.upd hua (by simp)).upd g2 (hold _ (by rw [show own b1 = _ from HA.out.o1]; simp))
            · rw [List.map_append]
              exact (HGN.out HK2.out) x
            · exact (HUP.out _ hux).trans g2 (fun i hi => hi) (fun i hi => .inr (hlow i hi))
            · rw [HUC.out]
              exact HSX.out
            · rw [HUC.out]
              exact fun g (hg : (Value.slice Am mem0.length cm).ownBlock = some g) => (own_low HMV2.out g (by simpa using hg)))
          have HNB := Lib.hid (HB.new X TTal u.cells)
          rw [show X.heap.size = W1.heap.size by rw [hX]; simp [World.setCell]] at HNB
          have HRO := Lib.hid (HKEEP.out _ (HUX.out.alloc (.cells u.cells.toArray TTal)).drew).2.1
          have HSB := Lib.hid (show w.heap.size ≤ (X.alloc (.cells u.cells.toArray TTal)).heap.size from by have := (HUX.out.alloc (.cells u.cells.toArray TTal)).size; have h2 := HI.out.up.size; have h3 := HUWS.out; omega)
          rw [hX, hu] at HNB HRO HSB HPOST
          simp only [TC.cells] at HNB HRO HSB
          clear hX hu
          go_wp2_with (at_builtin; go_must (refine wp_append1 w.heap.size 48 54 _ 9 112 (.slice A done.length cA) done.length ((done.map (·.2)).flatMap TC.cells) [.int .i64 t.k, .string t.n, .int .i64 n0, .int .i64 (wh s0), .int .u64 (wl s0), .int .i64 (wh wt0), .int .u64 (wl wt0), .slice As smp0.length cs, .slice Am mem0.length cm] _ rfl rfl (by kernel_rfl) infoTl rfl (by decide) (by decide) rfl rfl rfl (by simp [Value.oneCell']) HRO.out HNB.out.drew HSB.out (by have := HLEN.out; omega) ?_))
          intro v1 w4 hown4 hU4 hat4
          obtain ⟨B, cB, rfl, _, _, _⟩ := own_shape hown4
          have HINV := Lib.hid (HPOST.out _ _ hown4 hU4)
          clear hown4 hU4 hat4 HPOST
          go_wp2
          go_roundw
          case rel =>
            obtain ⟨d, l, g, s, hinv, hlen⟩ := HINV.out
            exact ⟨d, l, g, s, hinv⟩
          case measure =>
            obtain ⟨d, l, g, s, hinv, hlen⟩ := HINV.out
            rw [HLE.out, hinv.rg.left_eq, List.length_map, hlen]
            omega
      · simp only [TK.ty]
        have hna : ∀ W, (nilAhead 345 125 (.pointer (some ⟨tp, 0, none⟩)) "tumbler/agg.tell").run Tryz.prog W = .ok (some false) W := fun W => by kernel_rfl
        refine region_rel2 13 (by kernel_rfl) (by kernel_rfl) rfl (by kernel_rfl) (fun D aa W => ∃ x16 x17 x18 x19 x20 x21 x22 x23 x24 x25 x26 x27 x8 : Value, aa = { tmps := #[.pointer (some ⟨a, 0, none⟩), .map (some bw), undef, undef, .slice none 0 0, .slice A done.length cA, .pointer (some ⟨mb, 0, none⟩), (.iface 125 (.pointer (some ⟨tp, 0, none⟩))), x8, .map (some bw), .pointer (some ⟨w.heap.size, 0, none⟩), .tuple #[.bool true, (.agg #[.int .i64 t.k, .string t.n]), (.iface 125 (.pointer (some ⟨tp, 0, none⟩)))], .bool true, .tuple #[(.agg #[.int .i64 t.k, .string t.n]), (.iface 125 (.pointer (some ⟨tp, 0, none⟩)))], (.agg #[.int .i64 t.k, .string t.n]), (.iface 125 (.pointer (some ⟨tp, 0, none⟩))), x16, x17, x18, x19, x20, x21, x22, x23, x24, x25, x26, x27, u28, u29, u30, u31, u32, u33, u34, u35, u36, u37, u38, u39, u40, u41, u42, u43, u44, u45, u46, u47, u48, undef, undef, undef], defers := [] } ∧ Upd t.x W0 W ∧ (D 0 = true → x16 = (.iface 125 (.pointer (some ⟨tp, 0, none⟩)))) ∧ (D 1 = true → x17 = .pointer (some ⟨a, 0, none⟩)) ∧ (D 2 = true → x18 = .pointer (some ⟨a, 0, none⟩)) ∧ (D 3 = true → x19 = .pointer (some ⟨a, 1, none⟩)) ∧ (D 4 = true → x20 = .map (some b1)) ∧ (D 5 = true → x21 = .pointer (some ⟨mb, 1, none⟩)) ∧ (D 6 = true → x22 = .string t.n) ∧ (D 7 = true → x23 = wide gb) ∧ (D 8 = true → x24 = .func (.method "tumbler/agg.tell") #[(.iface 125 (.pointer (some ⟨tp, 0, none⟩)))] #[]) ∧ (D 9 = true → x25 = .func (.method "tumbler/agg.tell") #[(.iface 125 (.pointer (some ⟨tp, 0, none⟩)))] #[]) ∧ (D 10 = true → x26 = (.iface 125 (.pointer (some ⟨tp, 0, none⟩)))) ∧ (D 11 = true → TelR base t.x W0 W n0 s0 wt0 smp0 mem0 x27) ∧ (D 12 = true → Blk W0 W TTal tal0 x8) ∧ ((D 11 = false → Upd [] W0 W))) ⟨_, _, _, _, _, _, _, _, _, _, _, _, _, rfl, (Upd.refl _ _).drew, (fun h => by cases h), (fun h => by cases h), (fun h => by cases h), (fun h => by cases h), (fun h => by cases h), (fun h => by cases h), (fun h => by cases h), (fun h => by cases h), (fun h => by cases h), (fun h => by cases h), (fun h => by cases h), (fun h => by cases h), (fun h => by cases h), (fun _ => (Upd.refl _ _).drew)⟩ ?_ ?_
        · rintro D aa W i o ⟨x16, x17, x18, x19, x20, x21, x22, x23, x24, x25, x26, x27, x8, rfl, hU, h0, h1, h2, h3, h4, h5, h6, h7, h8, h9, h10, h11, h12, hE⟩ hi ho hDi hdep hcl
          match i with
          | 0 =>
            refine wpOp_via ho fun KK hK => ?_
            have HK := Lib.hid hK
            clear hK
            obtain rfl := Option.some.inj ho
            have HUW := Lib.hid hU
            clear hU
            go_wp2
            exact HK.out _ _ ⟨_, _, _, _, _, _, _, _, _, _, _, _, _, rfl, HUW.out, (fun _ => rfl), (by simpa using h1), (by simpa using h2), (by simpa using h3), (by simpa using h4), (by simpa using h5), (by simpa using h6), (by simpa using h7), (by simpa using h8), (by simpa using h9), (by simpa using h10), (fun h => h11 (by simpa using h)), (fun h => h12 (by simpa using h)), (fun h => hE (by simpa using h))⟩
          | 1 =>
            refine wpOp_via ho fun KK hK => ?_
            have HK := Lib.hid hK
            clear hK
            obtain rfl := Option.some.inj ho
            have HUW := Lib.hid hU
            clear hU
            go_wp2
            exact HK.out _ _ ⟨_, _, _, _, _, _, _, _, _, _, _, _, _, rfl, HUW.out, (by simpa using h0), (fun _ => rfl), (by simpa using h2), (by simpa using h3), (by simpa using h4), (by simpa using h5), (by simpa using h6), (by simpa using h7), (by simpa using h8), (by simpa using h9), (by simpa using h10), (fun h => h11 (by simpa using h)), (fun h => h12 (by simpa using h)), (fun h => hE (by simpa using h))⟩
          | 2 =>
            refine wpOp_via ho fun KK hK => ?_
            have HK := Lib.hid hK
            clear hK
            obtain rfl := Option.some.inj ho
            obtain rfl := h1 (hdep ⟨1, .data⟩ (by simp) rfl)
            have HUW := Lib.hid hU
            clear hU
            go_wp2
            exact HK.out _ _ ⟨_, _, _, _, _, _, _, _, _, _, _, _, _, rfl, HUW.out, (by simpa using h0), (fun _ => rfl), (fun _ => rfl), (by simpa using h3), (by simpa using h4), (by simpa using h5), (by simpa using h6), (by simpa using h7), (by simpa using h8), (by simpa using h9), (by simpa using h10), (fun h => h11 (by simpa using h)), (fun h => h12 (by simpa using h)), (fun h => hE (by simpa using h))⟩
          | 3 =>
            refine wpOp_via ho fun KK hK => ?_
            have HK := Lib.hid hK
            clear hK
            obtain rfl := Option.some.inj ho
            obtain rfl := h2 (hdep ⟨2, .data⟩ (by simp) rfl)
            have HUW := Lib.hid hU
            clear hU
            go_wp2
            exact HK.out _ _ ⟨_, _, _, _, _, _, _, _, _, _, _, _, _, rfl, HUW.out, (by simpa using h0), (by simpa using h1), (fun _ => rfl), (fun _ => rfl), (by simpa using h4), (by simpa using h5), (by simpa using h6), (by simpa using h7), (by simpa using h8), (by simpa using h9), (by simpa using h10), (fun h => h11 (by simpa using h)), (fun h => h12 (by simpa using h)), (fun h => hE (by simpa using h))⟩
          | 4 =>
            refine wpOp_via ho fun KK hK => ?_
            have HK := Lib.hid hK
            clear hK
            obtain rfl := Option.some.inj ho
            obtain rfl := h3 (hdep ⟨3, .data⟩ (by simp) rfl)
            have HUW := Lib.hid hU
            clear hU
            have s1 := (HQ.out _ HUW.out).2.1.cell (j := 1) rfl
            go_wp2
            exact HK.out _ _ ⟨_, _, _, _, _, _, _, _, _, _, _, _, _, rfl, HUW.out, (by simpa using h0), (by simpa using h1), (by simpa using h2), (fun _ => rfl), (fun _ => rfl), (by simpa using h5), (by simpa using h6), (by simpa using h7), (by simpa using h8), (by simpa using h9), (by simpa using h10), (fun h => h11 (by simpa using h)), (fun h => h12 (by simpa using h)), (fun h => hE (by simpa using h))⟩
          | 5 =>
            refine wpOp_via ho fun KK hK => ?_
            have HK := Lib.hid hK
            clear hK
            obtain rfl := Option.some.inj ho
            have HUW := Lib.hid hU
            clear hU
            go_wp2
            exact HK.out _ _ ⟨_, _, _, _, _, _, _, _, _, _, _, _, _, rfl, HUW.out, (by simpa using h0), (by simpa using h1), (by simpa using h2), (by simpa using h3), (by simpa using h4), (fun _ => rfl), (by simpa using h6), (by simpa using h7), (by simpa using h8), (by simpa using h9), (by simpa using h10), (fun h => h11 (by simpa using h)), (fun h => h12 (by simpa using h)), (fun h => hE (by simpa using h))⟩
          | 6 =>
            refine wpOp_via ho fun KK hK => ?_
            have HK := Lib.hid hK
            clear hK
            obtain rfl := Option.some.inj ho
            obtain rfl := h5 (hdep ⟨5, .data⟩ (by simp) rfl)
            have HUW := Lib.hid hU
            clear hU
            have s1 := (HQ.out _ HUW.out).1.cell (j := 1) rfl
            go_wp2
            exact HK.out _ _ ⟨_, _, _, _, _, _, _, _, _, _, _, _, _, rfl, HUW.out, (by simpa using h0), (by simpa using h1), (by simpa using h2), (by simpa using h3), (by simpa using h4), (fun _ => rfl), (fun _ => rfl), (by simpa using h7), (by simpa using h8), (by simpa using h9), (by simpa using h10), (fun h => h11 (by simpa using h)), (fun h => h12 (by simpa using h)), (fun h => hE (by simpa using h))⟩
          | 7 =>
            refine wpOp_via ho fun KK hK => ?_
            have HK := Lib.hid hK
            clear hK
            obtain rfl := Option.some.inj ho
            obtain rfl := h4 (hdep ⟨4, .data⟩ (by simp) rfl)
            obtain rfl := h6 (hdep ⟨6, .data⟩ (by simp) rfl)
            have HUW := Lib.hid hU
            clear hU
            have s1 := HLK.out _ HUW.out
            go_wp2
            exact HK.out _ _ ⟨_, _, _, _, _, _, _, _, _, _, _, _, _, rfl, HUW.out, (by simpa using h0), (by simpa using h1), (by simpa using h2), (by simpa using h3), (fun _ => rfl), (by simpa using h5), (fun _ => rfl), (fun _ => rfl), (by simpa using h8), (by simpa using h9), (by simpa using h10), (fun h => absurd (hcl 11 _ rfl (by simpa using h) ⟨7, .data⟩ (by simp) rfl) (by rw [hDi]; simp)), (fun h => h12 (by simpa using h)), (fun h => hE (by simpa using h))⟩
          | 8 =>
            refine wpOp_via ho fun KK hK => ?_
            have HK := Lib.hid hK
            clear hK
            obtain rfl := Option.some.inj ho
            obtain rfl := h0 (hdep ⟨0, .data⟩ (by simp) rfl)
            have HUW := Lib.hid hU
            clear hU
            go_wp2
            exact HK.out _ _ ⟨_, _, _, _, _, _, _, _, _, _, _, _, _, rfl, HUW.out, (fun _ => rfl), (by simpa using h1), (by simpa using h2), (by simpa using h3), (by simpa using h4), (by simpa using h5), (by simpa using h6), (by simpa using h7), (fun _ => rfl), (by simpa using h9), (by simpa using h10), (fun h => h11 (by simpa using h)), (fun h => h12 (by simpa using h)), (fun h => hE (by simpa using h))⟩
          | 9 =>
            refine wpOp_via ho fun KK hK => ?_
            have HK := Lib.hid hK
            clear hK
            obtain rfl := Option.some.inj ho
            obtain rfl := h8 (hdep ⟨8, .data⟩ (by simp) rfl)
            have HUW := Lib.hid hU
            clear hU
            go_wp2
            exact HK.out _ _ ⟨_, _, _, _, _, _, _, _, _, _, _, _, _, rfl, HUW.out, (by simpa using h0), (by simpa using h1), (by simpa using h2), (by simpa using h3), (by simpa using h4), (by simpa using h5), (by simpa using h6), (by simpa using h7), (fun _ => rfl), (fun _ => rfl), (by simpa using h10), (fun h => h11 (by simpa using h)), (fun h => h12 (by simpa using h)), (fun h => hE (by simpa using h))⟩
          | 10 =>
            refine wpOp_via ho fun KK hK => ?_
            have HK := Lib.hid hK
            clear hK
            obtain rfl := Option.some.inj ho
            obtain rfl := h0 (hdep ⟨0, .data⟩ (by simp) rfl)
            have HUW := Lib.hid hU
            clear hU
            go_wp2
            exact HK.out _ _ ⟨_, _, _, _, _, _, _, _, _, _, _, _, _, rfl, HUW.out, (fun _ => rfl), (by simpa using h1), (by simpa using h2), (by simpa using h3), (by simpa using h4), (by simpa using h5), (by simpa using h6), (by simpa using h7), (by simpa using h8), (by simpa using h9), (fun _ => rfl), (fun h => absurd (hcl 11 _ rfl (by simpa using h) ⟨10, .data⟩ (by simp) rfl) (by rw [hDi]; simp)), (fun h => h12 (by simpa using h)), (fun h => hE (by simpa using h))⟩
          | 11 =>
            refine wpOp_via ho fun KK hK => ?_
            have HK := Lib.hid hK
            clear hK
            obtain rfl := Option.some.inj ho
            obtain rfl := h10 (hdep ⟨10, .data⟩ (by simp) rfl)
            obtain rfl := h7 (hdep ⟨7, .data⟩ (by simp) rfl)
            have HUW := Lib.hid hU
            clear hU
            have hE0 := HTL.out _ (hE hDi)
            go_wp2_with fail
            refine hE0.mono ?_
            rintro e w6 ⟨sv, mv, rfl, g1, g2, g3, g4⟩
            have hx : TelR base t.x W0 w6 n0 s0 wt0 smp0 mem0 (.agg (tallyC 0 ⟨#[]⟩ n0 s0 wt0 sv mv).toArray) := ⟨sv, mv, rfl, g1, own_mono g2 HUW.out.size, g3⟩
            have hUF : Upd t.x W0 w6 := HUW.out.then g4
            have hG : ∃ S, Upd S W w6 ∧ ∀ i ∈ S, i < W0.heap.size := ⟨t.x, g4, HXL.out⟩
            have HX := Lib.hid hx
            have HUF := Lib.hid hUF
            have HG := Lib.hid hG
            clear hx hUF hG g1 g2 g3 g4 hE0
            go_wp2
            have hx := HX.out
            have hUF := HUF.out
            have hG := HG.out
            exact HK.out _ _ ⟨_, _, _, _, _, _, _, _, _, _, _, _, _, rfl, hUF, (by simpa using h0), (by simpa using h1), (by simpa using h2), (by simpa using h3), (by simpa using h4), (by simpa using h5), (by simpa using h6), (fun _ => rfl), (by simpa using h8), (by simpa using h9), (fun _ => rfl), (fun _ => hx), (fun h => Blk.upd0_g (h12 (by simpa using h)) hG), (fun h => by simp at h)⟩
          | 12 =>
            refine wpOp_via ho fun KK hK => ?_
            have HK := Lib.hid hK
            clear hK
            obtain rfl := Option.some.inj ho
            have HUW := Lib.hid hU
            clear hU
            have hx : Blk W0 (W.alloc (.cells tal0.toArray TTal)) TTal tal0 (.pointer (some ⟨W.heap.size, 0, none⟩)) := ⟨_, rfl, HUW.out.size, HB.new W _ _⟩
            have hU1 := (Upd.refl [] W).alloc (.cells tal0.toArray TTal)
            go_wp2
            exact HK.out _ _ ⟨_, _, _, _, _, _, _, _, _, _, _, _, _, rfl, HUW.out.then0 hU1, (by simpa using h0), (by simpa using h1), (by simpa using h2), (by simpa using h3), (by simpa using h4), (by simpa using h5), (by simpa using h6), (by simpa using h7), (by simpa using h8), (by simpa using h9), (by simpa using h10), (fun h => TelR.upd0 (h11 (by simpa using h)) hU1), (fun _ => hx), (fun h => (hE (by simpa using h)).then hU1)⟩
          | i + 13 => omega
        · rintro D aa W o ⟨x16, x17, x18, x19, x20, x21, x22, x23, x24, x25, x26, x27, x8, rfl, hU, h0, h1, h2, h3, h4, h5, h6, h7, h8, h9, h10, h11, h12, hE⟩ hall ho
          refine wpOp_of_list ho ?_
          obtain rfl := Option.some.inj ho
          obtain rfl := h0 (hall 0 (by omega))
          obtain rfl := h1 (hall 1 (by omega))
          obtain rfl := h2 (hall 2 (by omega))
          obtain rfl := h3 (hall 3 (by omega))
          obtain rfl := h4 (hall 4 (by omega))
          obtain rfl := h5 (hall 5 (by omega))
          obtain rfl := h6 (hall 6 (by omega))
          obtain rfl := h7 (hall 7 (by omega))
          obtain rfl := h8 (hall 8 (by omega))
          obtain rfl := h9 (hall 9 (by omega))
          obtain rfl := h10 (hall 10 (by omega))
          have r11 := h11 (hall 11 (by omega))
          have r12 := h12 (hall 12 (by omega))
          obtain ⟨sv, mv, e1, hsv, hmv, hsx2⟩ := r11
          obtain rfl := e1
          obtain ⟨tb, e1, htb1, htb2⟩ := r12
          obtain rfl := e1
          obtain ⟨As, cs, rfl, _, _, _⟩ := own_shape hsv
          obtain ⟨Am, cm, rfl, _, _, _⟩ := own_shape hmv
          unfold tal0 at htb2
          have HSV := Lib.hid hsv
          have HMV := Lib.hid hmv
          have HSX := Lib.hid hsx2
          have HTB := Lib.hid htb2
          have HTB1 := Lib.hid htb1
          have HBT := Lib.hid (show b1 ≠ tb from fun e => by have := (HQ.out _ (Upd.refl _ _)).2.2.lt; omega)
          have HAT := Lib.hid (show a ≠ tb from fun e => by have := (HQ.out _ hU).2.1.lt; have := HQ.out _ (Upd.refl _ _); have := this.2.1.lt; omega)
          have HMT := Lib.hid (show mb ≠ tb from fun e => by have := (HQ.out _ hU).1.lt; have := (HMB.out.lt); omega)
          have HU5 := Lib.hid hU
          have t0 := htb2.cell (j := 0) rfl
          have f0 := htb2.free 0
          have t1 := htb2.cell (j := 1) rfl
          have f1 := htb2.free 1
          have t2 := htb2.cell (j := 2) rfl
          have f2 := htb2.free 2
          have t3 := htb2.cell (j := 3) rfl
          have f3 := htb2.free 3
          have t4 := htb2.cell (j := 4) rfl
          have f4 := htb2.free 4
          have t5 := htb2.cell (j := 5) rfl
          have f5 := htb2.free 5
          have t6 := htb2.cell (j := 6) rfl
          have f6 := htb2.free 6
          have t7 := htb2.cell (j := 7) rfl
          have f7 := htb2.free 7
          have t8 := htb2.cell (j := 8) rfl
          have f8 := htb2.free 8
          unfold tallyC
          clear hsv hmv htb2 hU hE hsx2 htb1
          go_wp2_with fail
          clear t0 t1 t2 t3 t4 t5 t6 t7 t8 f0 f1 f2 f3 f4 f5 f6 f7 f8 hna
          obtain ⟨W1, hW1⟩ : ∃ W1, W1 = put9 W tb (.int .i64 0) (.string ⟨#[]⟩) (.int .i64 n0) (.int .i64 (wh s0)) (.int .u64 (wl s0)) (.int .i64 (wh wt0)) (.int .u64 (wl wt0)) (.slice As smp0.length cs) (.slice Am mem0.length cm) := ⟨_, rfl⟩
          have hUp := put9_upd (S := [tb]) (Upd.refl [tb] W) (b := tb) (.inl (by simp)) (.int .i64 0) (.string ⟨#[]⟩) (.int .i64 n0) (.int .i64 (wh s0)) (.int .u64 (wl s0)) (.int .i64 (wh wt0)) (.int .u64 (wl wt0)) (.slice As smp0.length cs) (.slice Am mem0.length cm)
          have hB1 := put9_HB HTB.out (.int .i64 0) (.string ⟨#[]⟩) (.int .i64 n0) (.int .i64 (wh s0)) (.int .u64 (wl s0)) (.int .i64 (wh wt0)) (.int .u64 (wl wt0)) (.slice As smp0.length cs) (.slice Am mem0.length cm)
          rw [← hW1] at hUp hB1
          unfold put9 at hW1
          rw [← hW1]
          have HTBU := Lib.hid (show tb ∉ t.x from fun hm => by have := HXL.out _ hm; have := HTB1.out; omega)
          have HU1 := Lib.hid (show Upd t.x W0 W1 from HU5.out.trans hUp (fun _ h => h) (fun i hi => .inr (by simp at hi; subst hi; exact HTB1.out)))
          have HSV1 := Lib.hid (own_upd HSV.out hUp (by simpa using own_ne HSV.out HTB.out (by decide)))
          have HMV1 := Lib.hid (own_upd HMV.out hUp (by simpa using own_ne HMV.out HTB.out (by decide)))
          have HB1 := Lib.hid hB1
          have HKQ := Lib.hid (HQ.out W1 HU1.out)
          clear hW1 hUp hB1 HSV HMV HTB HU5
          have m0 := fun q : Wd [tb] W1 => q.h.cell (HKQ.out.1.cell (j := 0) rfl) (by simp; exact HMT.out)
          have mm1 := fun q : Wd [tb] W1 => q.h.cell (HKQ.out.1.cell (j := 1) rfl) (by simp; exact HMT.out)
          have hV2 := ((Upd.refl [tb] W1).setCell (p := ⟨tb, 0, none⟩) (.inl (by simp)) (.int .i64 t.k)).setCell (p := ⟨tb, 1, none⟩) (.inl (by simp)) (.string t.n)
          have hB2 := (HB1.out.set 0 (.int .i64 t.k)).set 1 (.string t.n)
          have c0 := hV2.cell (HKQ.out.1.cell (j := 0) rfl) (by simp; exact HMT.out)
          have c1 := hV2.cell (HKQ.out.1.cell (j := 1) rfl) (by simp; exact HMT.out)
          have c2 := hV2.cell (HKQ.out.2.1.cell (j := 1) rfl) (by simp; exact HAT.out)
          have g0 := HB1.out.free 0
          have g1 := HB1.out.free 1
          have d0 := HB1.out.cell (j := 0) rfl
          have d1 := HB1.out.cell (j := 1) rfl
          have t0 := hB2.cell (j := 0) rfl
          have f0 := hB2.free 0
          have t1 := hB2.cell (j := 1) rfl
          have f1 := hB2.free 1
          have t2 := hB2.cell (j := 2) rfl
          have f2 := hB2.free 2
          have t3 := hB2.cell (j := 3) rfl
          have f3 := hB2.free 3
          have t4 := hB2.cell (j := 4) rfl
          have f4 := hB2.free 4
          have t5 := hB2.cell (j := 5) rfl
          have f5 := hB2.free 5
          have t6 := hB2.cell (j := 6) rfl
          have f6 := hB2.free 6
          have t7 := hB2.cell (j := 7) rfl
          have f7 := hB2.free 7
          have t8 := hB2.cell (j := 8) rfl
          have f8 := hB2.free 8
          clear f0 f1 f2 f3 f4 f5 f6 f7 f8
          obtain ⟨X, hX⟩ : ∃ X, X = (W1.setCell ⟨tb, 0, none⟩ (.int .i64 t.k)).setCell ⟨tb, 1, none⟩ (.string t.n) := ⟨_, rfl⟩
          rw [← hX] at hV2 hB2
          have HV2 := Lib.hid hV2
          have HB2 := Lib.hid hB2
          have HX := Lib.hid hX
          have HK2 := Lib.hid (show t.k ≠ 2 by rw [← HKD.out]; simp [TK.kind])
          have hk2 : (t.k == 2) = false := by rw [← HKD.out]; rfl
          clear hV2 hB2
          have HV1 := Lib.hid ((Upd.refl [tb] W1).setCell (p := ⟨tb, 0, none⟩) (.inl (by simp)) (.int .i64 t.k))
          have HV3 := Lib.hid (show Upd [tb] W1 ((W1.setCell ⟨tb, 0, none⟩ (.int .i64 t.k)).setCell ⟨tb, 1, none⟩ (.string t.n)) by rw [← hX]; exact HV2.out)
          refine mix_start (n := 8) 8 (fun w' => ∃ p : Wd [tb] W1, w' = p.v) (by kernel_rfl) (by kernel_rfl) ?_
          refine mix_quiet [true, true, true, true, true] 3 rfl (by kernel_rfl) (by kernel_rfl) (by kernel_rfl) (by kernel_rfl) ⟨⟨_, (Upd.refl [tb] W1).drew⟩, rfl⟩ ?_
          simp only [maskL]
          repeat (go_big_quiet_step (fail))
          refine wpQuiet_nil ?_
          clear m0 mm1
          refine mix_one 5 (by kernel_rfl) (by kernel_rfl) rfl ?_
          intro K QF hK
          go_wp2_with fail
          refine hK _ _ ⟨⟨_, HV1.out.drew⟩, rfl⟩ ?_
          clear hK K QF
          refine mix_quiet [false, false, false, false, false, false, true] 1 rfl (by kernel_rfl) (by kernel_rfl) (by kernel_rfl) (by kernel_rfl) ⟨⟨_, HV1.out.drew⟩, rfl⟩ ?_
          simp only [maskL]
          repeat (go_big_quiet_step (fail))
          refine wpQuiet_nil ?_
          refine mix_one 7 (by kernel_rfl) (by kernel_rfl) rfl ?_
          intro K QF hK
          go_wp2_with fail
          refine hK _ _ ⟨⟨_, HV3.out.drew⟩, rfl⟩ ?_
          clear hK K QF
          refine mix_end (by kernel_rfl) ?_
          have HSV2 := Lib.hid (own_upd HSV1.out HV2.out (by simpa using own_ne HSV1.out HB1.out (by decide)))
          have HMV2 := Lib.hid (own_upd HMV1.out HV2.out (by simpa using own_ne HMV1.out HB1.out (by decide)))
          have HU2 := Lib.hid (HU1.out.trans HV2.out (U := t.x) (fun i hi => hi) (fun i hi => .inr (by simp at hi; subst hi; exact HTB1.out)))
          have HGA2 := Lib.hid (HKQ.out.2.2.upd HV2.out (by simp; exact HBT.out))
          clear HSV1 HMV1 HU1 HKQ
          obtain ⟨u, hu⟩ : ∃ u : TC, u = ⟨t.k, t.n, n0, wh s0, wl s0, wh wt0, wl wt0, As, smp0.length, cs, Am, mem0.length, cm⟩ := ⟨_, rfl⟩
          have HUC := Lib.hid hu
          have HUX := Lib.hid (show Upd (b1 :: t.x) W0 X from HU2.out.mono (fun i hi => .inl (List.mem_cons_of_mem _ hi)))
          have HPOST := Lib.hid (show ∀ v1 w4, w4.ownsRow w.heap.size TTal 9 v1 (done.length + 1) ((done.map (·.2)).flatMap TC.cells ++ u.cells) → Upd (Value.slice A done.length cA).ownBlock.toList (X.alloc (.cells u.cells.toArray TTal)).drew w4 → ∃ d l g s, TalInv w base a b0 b1 bw w.heap.size ts gs bd v1 w4 d l g s ∧ l.length = (l1 ++ l2).length from fun v1 w4 g1 g2 => by
            have hux := (HUX.out.alloc (.cells u.cells.toArray TTal)).drew
            have hua := ((Upd.refl [] X).alloc (.cells u.cells.toArray TTal)).drew
            obtain ⟨k1, k2, k3, k4, k5⟩ := HKEEP.out _ hux
            have hnr := own_ne_rng k2 k1
            have hlow := own_low k2
            have hold : ∀ b, own b ≠ .no → b ∉ (Value.slice A done.length cA).ownBlock.toList := fun b hb hm => by
              have h1 := (HA.out.lo b hb).2
              have h2 := hlow b hm
              omega
            have hou := HA.out.ot _ hout
            have hs := own_upd HSV2.out hua (by simp)
            have hm := own_upd HMV2.out hua (by simp)
            refine ⟨done ++ [(t, u)], l1 ++ l2, gs', b1 :: t.x ++ S, ⟨HPM.out u, k1.upd g2 hnr.1 hnr.2, ?_, fun q hq => ?_, fun s hs => ?_, k5.upd g2 (hold _ (by rw [HA.out.oa]; simp)), ?_, fun x => ?_, ?_, HSS.out, HND.out u ?_ ?_⟩, rfl⟩
            · rw [List.map_append, List.flatMap_append, List.length_append]
              simpa using g1
            · rcases List.mem_append.1 hq with hq | hq
              · have h0 := k3 q hq
                exact h0.upd g2 (fun g hg => hold g (by rw [(hou q.1 (HIN.out _ (.inl (List.mem_map_of_mem hq)))).2 g hg]; simp)) (fun g hg => own_ne2 k2 h0.1.mem (by decide) g hg)
              · simp only [List.mem_singleton] at hq
                subst hq
                have e := HDAT.out
                obtain ⟨e1, e2, e3, e4, e5, e6, e7⟩ := e
                refine ⟨⟨?_, ?_, ?_, ?_, ?_, ?_, ?_, ?_, ?_⟩, ?_⟩
                all_goals rw [HUC.out]
                · rfl
                · rfl
                · show n0 = t.tk.n
                  rw [e3, e2]
                · show wh s0 = wh (t.tk.sum _)
                  rw [HGS.out, e2]
                · show wl s0 = wl (t.tk.sum _)
                  rw [HGS.out, e2]
                · show wh wt0 = wh t.tk.wt
                  rw [e5, e2]
                · show wl wt0 = wl t.tk.wt
                  rw [e5, e2]
                · show w4.ownsRow base 2 1 (.slice As smp0.length cs) t.tk.smp.length (t.tk.smp.map (Value.int .i64))
                  rw [← e2, ← e6]
                  exact own_upd hs g2 (fun g hg => own_ne2 k2 hs (by decide) g hg)
                · show w4.ownsRow w.heap.size 9 1 (.slice Am mem0.length cm) t.tk.mem.length (t.tk.mem.map Value.string)
                  rw [← e2, ← e7]
                  exact own_mono (own_upd hm g2 (fun g hg => own_ne2 k2 hm (by decide) g hg)) (by have h2 := HI.out.up.size; have h3 := HUWS.out; omega)
                · exact HSX.out
            · have h0 := hou s (HIN.out _ (.inr hs))
              exact (k4 s hs).upd g2 (hold _ (by rw [h0.1]; simp)) (fun b hb => hold b (by rw [h0.2 b hb]; simp))
            · exact (HGA2.out.upd hua (by simp)).upd g2 (hold _ (by rw [show own b1 = _ from HA.out.o1]; simp))
            · rw [List.map_append]
              exact (HGN.out HK2.out) x
            · exact (HUP.out _ hux).trans g2 (fun i hi => hi) (fun i hi => .inr (hlow i hi))
            · rw [HUC.out]
              exact HSX.out
            · rw [HUC.out]
              exact fun g (hg : (Value.slice Am mem0.length cm).ownBlock = some g) => (own_low HMV2.out g (by simpa using hg)))
          have HNB := Lib.hid (HB.new X TTal u.cells)
          rw [show X.heap.size = W1.heap.size by rw [hX]; simp [World.setCell]] at HNB
          have HRO := Lib.hid (HKEEP.out _ (HUX.out.alloc (.cells u.cells.toArray TTal)).drew).2.1
          have HSB := Lib.hid (show w.heap.size ≤ (X.alloc (.cells u.cells.toArray TTal)).heap.size from by have := (HUX.out.alloc (.cells u.cells.toArray TTal)).size; have h2 := HI.out.up.size; have h3 := HUWS.out; omega)
          rw [hX, hu] at HNB HRO HSB HPOST
          simp only [TC.cells] at HNB HRO HSB
          clear hX hu
          go_wp2_with (at_builtin; go_must (refine wp_append1 w.heap.size 48 54 _ 9 112 (.slice A done.length cA) done.length ((done.map (·.2)).flatMap TC.cells) [.int .i64 t.k, .string t.n, .int .i64 n0, .int .i64 (wh s0), .int .u64 (wl s0), .int .i64 (wh wt0), .int .u64 (wl wt0), .slice As smp0.length cs, .slice Am mem0.length cm] _ rfl rfl (by kernel_rfl) infoTl rfl (by decide) (by decide) rfl rfl rfl (by simp [Value.oneCell']) HRO.out HNB.out.drew HSB.out (by have := HLEN.out; omega) ?_))
          intro v1 w4 hown4 hU4 hat4
          obtain ⟨B, cB, rfl, _, _, _⟩ := own_shape hown4
          have HINV := Lib.hid (HPOST.out _ _ hown4 hU4)
          clear hown4 hU4 hat4 HPOST
          go_wp2
          go_roundw
          case rel =>
            obtain ⟨d, l, g, s, hinv, hlen⟩ := HINV.out
            exact ⟨d, l, g, s, hinv⟩
          case measure =>
            obtain ⟨d, l, g, s, hinv, hlen⟩ := HINV.out
            rw [HLE.out, hinv.rg.left_eq, List.length_map, hlen]
            omega
end Go.Proofs.YthbjpoiolmlpmaaGreatDoor
