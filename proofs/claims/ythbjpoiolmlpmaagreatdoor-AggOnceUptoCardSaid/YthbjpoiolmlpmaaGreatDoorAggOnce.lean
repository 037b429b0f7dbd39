/- AggOnce: each window once. -/
import Derived.Test.YthbjpoiolmlpmaaGreatDoorAgOnce
import Derived.Test.YthbjpoiolmlpmaaGreatDoorMixS
import Derived.Test.YthbjpoiolmlpmaaGreatDoorRowSet
import Derived.Deep.CutRange
set_option linter.unusedVariables false
set_option linter.unusedSimpArgs false
namespace Go.Proofs.YthbjpoiolmlpmaaGreatDoor
open Go.RowKit
abbrev TOp : TypeId := 58
def evZ : Ev := ⟨⟨#[]⟩, 0, 0, false, ⟨#[]⟩, 0, false, 0⟩
theorem HB.putAt {b : Nat} {T : TypeId} : ∀ (vs : List Value) (w : World) (o : Nat) (c : List Value), HB w b T c → HB (putAt w b o vs) b T (setAt c o vs)
  | [], w, o, c, h => h
  | v :: vs, w, o, c, h => HB.putAt vs _ _ _ (h.set o v)
theorem HB.put10 {w : World} {b : Nat} {T : TypeId} {c vs : List Value} (h : HB w b T c) (hl : c.length = vs.length) : HB (Go.Proofs.YthbjpoiolmlpmaaGreatDoor.putAt w b 0 vs) b T vs := by
  have h1 := HB.putAt vs w 0 c h
  have h2 := setAt_mid vs c [] [] hl
  simp only [List.nil_append, List.append_nil, List.length_nil] at h2
  rwa [h2] at h1
structure OnInv (n k : Nat) (A : AgE) (last : List Int) (ev cn : Int) : Prop where
  kn : k ≤ n + 1
  bd : ∀ x ∈ last, x ≤ A.bd
  eq : cn + A.E.length = ev
  cn0 : 0 ≤ cn
  ev : ev ≤ k
  ll : (last.length : Int) ≤ cn
  hi : ∀ p ∈ A.E, p.1 ≤ mxI
  fin : k = n + 1 → A.E = []
theorem OnInv.skip {n k : Nat} {A : AgE} {last : List Int} {ev cn : Int} (h : OnInv n k A last ev cn) (hk : k < n) : OnInv n (k + 1) A last ev cn :=
  ⟨by omega, h.bd, h.eq, h.cn0, by have := h.ev; omega, h.ll, h.hi, fun e => by omega⟩
theorem OnInv.app {n k : Nat} {A : AgE} {last : List Int} {ev cn : Int} (h : OnInv n k A last ev cn) (hk : k < n) {win : Int} {e : Ev} (hw : I64 win) (hc : acode A.bd win e = 0) : OnInv n (k + 1) (A.apply win e) last (ev + 1) cn := by
  have e1 : A.apply win e = { A with E := A.E ++ [(win, e)] } := by unfold AgE.apply; rw [if_pos hc]
  rw [e1]
  refine ⟨by omega, h.bd, ?_, h.cn0, by have := h.ev; omega, h.ll, fun p hp => ?_, fun e => by omega⟩
  · have := h.eq
    simp only [List.length_append, List.length_singleton]
    omega
  · rcases List.mem_append.1 hp with hp | hp
    · exact h.hi p hp
    · simp at hp
      subst hp
      exact hw.2
theorem OnInv.no {n k : Nat} {A : AgE} {last : List Int} {ev cn : Int} (h : OnInv n k A last ev cn) (hk : k < n) {win : Int} {e : Ev} (hc : ¬ acode A.bd win e = 0) : OnInv n (k + 1) (A.apply win e) last ev cn := by
  have e1 : A.apply win e = A := by unfold AgE.apply; rw [if_neg hc]
  rw [e1]
  exact h.skip hk
theorem cSum_len (cw : List WCL) (h : ∀ c ∈ cw, 0 < c.us.length) (hp : ∀ c ∈ cw, ∀ u ∈ c.us, 1 ≤ u.2.c) : (cw.length : Int) ≤ cSum ((cw.map WCL.pl).flatMap (·.2)) := by
  induction cw with
  | nil => simp [cSum]
  | cons c cw ih =>
    have ih := ih (fun d hd => h d (List.mem_cons_of_mem _ hd)) (fun d hd => hp d (List.mem_cons_of_mem _ hd))
    have h1 := h c (by simp)
    have h2 := hp c (by simp)
    rw [List.map_cons, List.flatMap_cons, cSum_append, List.length_cons]
    have : 1 ≤ cSum c.pl.2 := by
      unfold WCL.pl
      dsimp only
      generalize c.us = us at *
      cases us with
      | nil => simp at h1
      | cons u us =>
        rw [List.map_cons]
        have e : cSum (u.2 :: us.map (·.2)) = u.2.c + cSum (us.map (·.2)) := by simp [cSum]
        have k1 := h2 u (by simp)
        have k2 := cSum_nn (us.map (·.2)) (fun t ht => by
          obtain ⟨x, hx, rfl⟩ := List.mem_map.1 ht
          exact h2 x (List.mem_cons_of_mem _ hx))
        omega
    omega
theorem OnInv.cls {n k : Nat} {A A' : AgE} {last : List Int} {ev cn win : Int} {cw : List WCL} (h : OnInv n k A last ev cn) (hk : k ≤ n) (hc : OnceCl A A' win cw) (hf : k = n → win = mxI) : OnInv n (k + 1) A' (last ++ cw.map WCL.id) ev (cn + cSum ((cw.map WCL.pl).flatMap (·.2))) := by
  have h1 := cSum_len cw hc.ne hc.pos
  refine ⟨by omega, fun x hx => ?_, ?_, ?_, by have := h.ev; omega, ?_, fun p hp => h.hi p (hc.sub p hp), fun e => hc.fin (hf (by omega)) h.hi⟩
  · rcases List.mem_append.1 hx with hx | hx
    · have := h.bd x hx
      have := hc.bd
      omega
    · obtain ⟨c, hcm, rfl⟩ := List.mem_map.1 hx
      exact hc.hi c hcm
  · have := h.eq
    have := hc.cnt
    omega
  · have := h.cn0
    omega
  · have := h.ll
    simp only [List.length_append, List.length_map]
    omega
def PLo (cw : List WCL) (q : Nat) : List TL := ((cw.take q).map WCL.pl).flatMap (·.2)
theorem plo_next {cw : List WCL} {q : Nat} {c : WCL} (h : cw[q]? = some c) : PLo cw (q + 1) = PLo cw q ++ c.us.map (·.2) := by
  unfold PLo
  rw [List.take_add_one, h]
  simp [WCL.pl]
theorem plo_all {cw : List WCL} {q : Nat} {c : WCL} (h : cw[q]? = some c) : ∃ M, (cw.map WCL.pl).flatMap (·.2) = PLo cw q ++ (c.us.map (·.2) ++ M) := by
  obtain ⟨hq, rfl⟩ := List.getElem?_eq_some_iff.1 h
  refine ⟨((cw.drop (q + 1)).map WCL.pl).flatMap (·.2), ?_⟩
  have e : cw = cw.take q ++ cw[q] :: cw.drop (q + 1) := by simp
  have e2 : cw.map WCL.pl = (cw.take q).map WCL.pl ++ cw[q].pl :: (cw.drop (q + 1)).map WCL.pl := by
    rw [← List.map_cons, ← List.map_append, ← e]
  unfold PLo
  rw [e2, List.flatMap_append, List.flatMap_cons]
  rfl
def tcOf (l : TL) (SA : Option Addr) (SC : Nat) (MA : Option Addr) (MC : Nat) : TC := ⟨l.k, l.n, l.c, wh l.sum, wl l.sum, wh l.wt, wl l.wt, SA, l.smp.length, SC, MA, l.mem.length, MC⟩
set_option maxHeartbeats 8000000 in
set_option maxRecDepth 200000 in
theorem once_calls (ops : List OpR) (v : Value) (F : Nat → Prop) (w : World) (hR : RowK w F opC 10 v ops) (hF : ∀ b, F b → b < w.heap.size) (hok : okOps ops) (hM : MaxL w) :
    Calls Tryz.prog 5 #[v] w fun e w' => e = .returned (.bool true) ∧ Upd [] w w' := by
  have HR := Lib.hid hR
  have HOK := Lib.hid hok
  have hrl := hok.len
  obtain ⟨A, c, rfl, hlc, hcm, _⟩ := hR.shape
  have HF := Lib.hid hF
  clear hR hok hlc hcm hF
  go_enter Tryz.func5, Tryz.ntmps5
  go_wp2_with fail
  refine (shNew_calls w).mono ?_
  rintro e w1 ⟨a, O, rfl, hS, hU⟩
  have HS := Lib.hid hS
  have HU := Lib.hid hU
  have HAW := Lib.hid (awake_calls w1 (hM.upd0 hU) (by have := hU.size; have := hM.pos; omega))
  clear hS hU
  go_wp2_with fail
  refine HAW.out.mono ?_
  rintro e w2 ⟨rfl, hU2⟩
  have HS2 := Lib.hid (HS.out.upd0 hU2)
  have HU2 := Lib.hid (HU.out.then hU2)
  clear hU2 HAW HS HU
  go_wp2_with fail
  go_loopw [4, 5, 6, 7] (fun vl ve vc i wr => ∃ (k : Nat) (O' : Nat → Prop) (G : AgE) (last : List Int) (ev cn : Int), i = .int .i64 k ∧ ve = .int .i64 ev ∧ vc = .int .i64 cn ∧ ShAt wr w.heap.size a O' G k ∧ wr.ownsRow w.heap.size 2 1 vl last.length (last.map (Value.int .i64)) ∧ (∀ g, vl.ownBlock = some g → ¬ O' g) ∧ OnInv ops.length k G last ev cn ∧ Upd [] w wr) (fun vl ve vc i _ => ops.length + 1 - (intOf i).toNat)
  case atStart => exact ⟨0, O, AgE.new, [], 0, 0, rfl, rfl, rfl, HS2.out, ⟨rfl, .inl ⟨rfl, rfl⟩⟩, fun g hg => (by cases hg), ⟨by omega, by simp, rfl, by omega, by simp, by simp, by simp [AgE.new], by simp [AgE.new]⟩, HU2.out⟩
  case round =>
    obtain ⟨k, O', G, last, ev, cn, rfl, rfl, rfl, hS, hla, hO, hin, hU⟩ := hrel
    obtain ⟨Al, cl, rfl, hl1, hl2, _⟩ := own_shape hla
    have HS := Lib.hid hS
    have HLA := Lib.hid hla
    have HO := Lib.hid hO
    have HIN := Lib.hid hin
    have HU := Lib.hid hU
    have hkn := hin.kn
    clear hS hla hO hin hU hl1 hl2
    by_cases hle : k ≤ ops.length
    · obtain ⟨op, hop⟩ : ∃ op : OpR, (k < ops.length ∧ ops[k]? = some op) ∨ (k = ops.length ∧ op = (1, mxI, evZ)) := by
        by_cases h : k < ops.length
        · exact ⟨ops[k], .inl ⟨h, List.getElem?_eq_getElem h⟩⟩
        · exact ⟨_, .inr ⟨by omega, rfl⟩⟩
      have HOP := Lib.hid hop
      clear hop
      obtain ⟨W1, hW1⟩ : ∃ W1, W1 = wr.alloc (.cells #[.int .i64 1, .int .i64 9223372036854775807, .string ⟨#[]⟩, .int .i64 0, .int .i64 0, .bool false, .string ⟨#[]⟩, .int .i64 0, .bool false, .int .i64 0] TOp) := ⟨_, rfl⟩
      have hUW : Upd [] wr W1 := by rw [hW1]; exact (Upd.refl [] wr).alloc _
      have HB1 := Lib.hid (show HB W1 wr.heap.size TOp (opC (1, mxI, evZ)) from by rw [hW1]; exact HB.new wr TOp (opC (1, mxI, evZ)))
      have HUW := Lib.hid hUW
      clear hUW
      go_upto_region 11 with fail
      rw [← hW1]
      clear hW1
      rcases HOP.out with ⟨hlt, hp⟩ | ⟨hkq, rfl⟩
      · obtain ⟨b, o, rfl, hb, hf⟩ := HR.out.at_ hp
        have hc : ∀ j u, (opC op)[j]? = some u → W1.cell? ⟨b, o + k * 10 + j, none⟩ = some u := fun j u hj => (HU.out.then HUW.out).cell (hf j u hj) (by simp)
        obtain ⟨kd, win, e⟩ := op
        have HLP := Lib.hid (show k < ops.length ∧ ops[k]? = some (kd, win, e) from ⟨hlt, hp⟩)
        have c0 := hc 0 _ rfl
        have c1 := hc 1 _ rfl
        have c2 := hc 2 _ rfl
        have c3 := hc 3 _ rfl
        have c4 := hc 4 _ rfl
        have c5 := hc 5 _ rfl
        have c6 := hc 6 _ rfl
        have c7 := hc 7 _ rfl
        have c8 := hc 8 _ rfl
        have c9 := hc 9 _ rfl
        rw [Nat.add_zero] at c0
        have hb1 := HB1.out
        have t0 := hb1.cell (j := 0) rfl
        have f0 := hb1.free 0
        have t1 := hb1.cell (j := 1) rfl
        have f1 := hb1.free 1
        have t2 := hb1.cell (j := 2) rfl
        have f2 := hb1.free 2
        have t3 := hb1.cell (j := 3) rfl
        have f3 := hb1.free 3
        have t4 := hb1.cell (j := 4) rfl
        have f4 := hb1.free 4
        have t5 := hb1.cell (j := 5) rfl
        have f5 := hb1.free 5
        have t6 := hb1.cell (j := 6) rfl
        have f6 := hb1.free 6
        have t7 := hb1.cell (j := 7) rfl
        have f7 := hb1.free 7
        have t8 := hb1.cell (j := 8) rfl
        have f8 := hb1.free 8
        have t9 := hb1.cell (j := 9) rfl
        have f9 := hb1.free 9
        clear hf hp hb hc hb1
        go_upto_region 13 with fail
        clear c0 c1 c2 c3 c4 c5 c6 c7 c8 c9 t0 t1 t2 t3 t4 t5 t6 t7 t8 t9 f0 f1 f2 f3 f4 f5 f6 f7 f8 f9
        have hob := HB.put10 HB1.out (vs := opC (kd, win, e)) rfl
        have huo := putAt_upd (S := []) (a := wr) (b := wr.heap.size) (.inr (Nat.le_refl _)) (opC (kd, win, e)) W1 0 HUW.out
        obtain ⟨X, hX⟩ : ∃ X, X = putAt W1 wr.heap.size 0 (opC (kd, win, e)) := ⟨_, rfl⟩
        rw [← hX] at hob huo
        simp only [putAt, opC, evC, Nat.zero_add, Nat.add_assoc, Nat.reduceAdd] at hX
        rw [← hX]
        clear hX
        have HOB := Lib.hid hob
        have HS3 := Lib.hid (HS.out.upd0 huo)
        have HLA3 := Lib.hid (own_upd HLA.out huo (by simp))
        have HU3 := Lib.hid (HU.out.then huo)
        have HNO := Lib.hid (show ¬ O' wr.heap.size from fun h => by have := (HS.out.lo _ h).2; omega)
        have HLL := Lib.hid (show ∀ g, (Value.slice Al last.length cl).ownBlock = some g → g < wr.heap.size from fun g hg => own_lt HLA.out g hg)
        have HWX := Lib.hid huo.size
        have hk0 := HIN.out.cn0
        have hk1 := HIN.out.eq
        have hk2 := HIN.out.ev
        clear hob huo
        by_cases k0 : kd = 0
        · subst k0
          have hlt : k < ops.length ∧ ops[k]? = some (0, win, e) := HLP.out
          have hsz := HOK.out.sz _ (List.mem_of_getElem? hlt.2)
          have hwi := HOK.out.win _ (List.mem_of_getElem? hlt.2)
          have HAP := Lib.hid (shApply_calls w.heap.size a k O' G win e X HS3.out (by omega) (hM.upd0 HU3.out) hsz.1 (Nat.le_trans hsz.2 (by unfold maxLen; decide)) HU3.out.size hM.pos)
          have HWI := Lib.hid hwi
          have hlk := hlt.1
          have hob := HOB.out
          have t0 := hob.cell (j := 0) rfl
          have f0 := hob.free 0
          have t1 := hob.cell (j := 1) rfl
          have f1 := hob.free 1
          have t2 := hob.cell (j := 2) rfl
          have f2 := hob.free 2
          have t3 := hob.cell (j := 3) rfl
          have f3 := hob.free 3
          have t4 := hob.cell (j := 4) rfl
          have f4 := hob.free 4
          have t5 := hob.cell (j := 5) rfl
          have f5 := hob.free 5
          have t6 := hob.cell (j := 6) rfl
          have f6 := hob.free 6
          have t7 := hob.cell (j := 7) rfl
          have f7 := hob.free 7
          have t8 := hob.cell (j := 8) rfl
          have f8 := hob.free 8
          have t9 := hob.cell (j := 9) rfl
          clear hsz hwi hlt hob
          go_wp2_with fail
          refine HAP.out.mono ?_
          rintro x w3 ⟨rfl, O2, hS4, hO4, hU4⟩
          have HOB4 := Lib.hid (hU4.hb HOB.out HNO.out)
          have HLA4 := Lib.hid (show w3.ownsRow w.heap.size 2 1 (.slice Al last.length cl) last.length (last.map (Value.int .i64)) from by
            obtain ⟨T, j1, j2⟩ := hU4
            exact own_upd HLA3.out j1 (fun g hg hm => HO.out g hg (j2 g hm)))
          have HS4 := Lib.hid hS4
          have HO4 := Lib.hid (show ∀ g, (Value.slice Al last.length cl).ownBlock = some g → ¬ O2 g from fun g hg h => HO.out g hg (hO4 g (own_lt HLA3.out g hg) h))
          have HU4 := Lib.hid (hU4.low HU3.out (fun b hb => (HS3.out.lo b hb).1))
          clear hS4 hO4 hU4 t0 t1 t2 t3 t4 t5 t6 t7 t8 t9 f0 f1 f2 f3 f4 f5 f6 f7 f8
          have o0 := HOB4.out.cell (j := 0) rfl
          by_cases hc : acode G.bd win e = 0
          · have d1 : (acode G.bd win e == 0) = true := by simpa using hc
            have HI2 := Lib.hid (HIN.out.app hlk HWI.out hc)
            have hbw := (acode_ok hc).2
            clear hc
            go_wp2_with fail
            by_cases hl : last.length = 0
            · have d0 : decide (0 < last.length) = false := decide_eq_false (by omega)
              clear hl d1
              refine mix_start (n := 14) 14 (fun w' => ∃ p : Wd [] w3, w' = p.v) (by kernel_rfl) (by kernel_rfl) ?_
              refine mix_quiet [true, true, true, true, true, true, true, true, true, true, true, true, true, true] 0 rfl (by kernel_rfl) (by kernel_rfl) (by kernel_rfl) (by kernel_rfl) ⟨⟨_, (Upd.refl [] w3).drew⟩, rfl⟩ ?_
              simp only [maskL]
              repeat (go_big_quiet_step (fail))
              refine wpQuiet_nil ?_
              refine mix_end (by kernel_rfl) ?_
              go_wp2_with fail
              go_roundw
              case rel => exact ⟨k + 1, O2, _, last, ev + 1, cn, by go_num, rfl, rfl, HS4.out.upd0 (by repeat (first | exact Upd.refl _ _ | assumption | apply Upd.drewN | apply Upd.drew | apply Upd.alloc)), own_upd HLA4.out (S := []) (by repeat (first | exact Upd.refl _ _ | assumption | apply Upd.drewN | apply Upd.drew | apply Upd.alloc)) (by simp), HO4.out, HI2.out, HU4.out.then (by repeat (first | exact Upd.refl _ _ | assumption | apply Upd.drewN | apply Upd.drew | apply Upd.alloc))⟩
              case measure => simp [intOf]; omega
            · obtain ⟨y, hy⟩ : ∃ y, last[last.length - 1]? = some y := ⟨last[last.length - 1], List.getElem?_eq_getElem (by omega)⟩
              obtain ⟨g, eA, cy⟩ := own_int HLA4.out hy
              subst eA
              have hyb := HIN.out.bd y (List.mem_of_getElem? hy)
              have d0 : decide (0 < last.length) = true := decide_eq_true (by omega)
              have d2 : decide (win ≤ y) = false := decide_eq_false (by omega)
              have y1 := fun z : Wd [] w3 => z.h.cell (HOB4.out.cell (j := 1) rfl) (by simp)
              have yc := fun z : Wd [] w3 => z.h.cell cy (by simp)
              have hll : last.length ≤ 1048577 := by have := HIN.out.ll; omega
              clear hy hyb cy d1
              refine mix_start (n := 14) 14 (fun w' => ∃ p : Wd [] w3, w' = p.v) (by kernel_rfl) (by kernel_rfl) ?_
              refine mix_quiet [true, true, true, true, true, true, true, true, true, true, true, true, true, true] 0 rfl (by kernel_rfl) (by kernel_rfl) (by kernel_rfl) (by kernel_rfl) ⟨⟨_, (Upd.refl [] w3).drew⟩, rfl⟩ ?_
              simp only [maskL]
              repeat (go_big_quiet_step (fail))
              refine wpQuiet_nil ?_
              refine mix_end (by kernel_rfl) ?_
              go_wp2_with fail
              go_roundw
              case rel => exact ⟨k + 1, O2, _, last, ev + 1, cn, by go_num, rfl, rfl, HS4.out.upd0 (by repeat (first | exact Upd.refl _ _ | assumption | apply Upd.drewN | apply Upd.drew | apply Upd.alloc)), own_upd HLA4.out (S := []) (by repeat (first | exact Upd.refl _ _ | assumption | apply Upd.drewN | apply Upd.drew | apply Upd.alloc)) (by simp), HO4.out, HI2.out, HU4.out.then (by repeat (first | exact Upd.refl _ _ | assumption | apply Upd.drewN | apply Upd.drew | apply Upd.alloc))⟩
              case measure => simp [intOf]; omega
          · have d1 : (acode G.bd win e == 0) = false := by simpa using hc
            have HI2 := Lib.hid (HIN.out.no hlk (win := win) (e := e) hc)
            clear hc
            go_wp2_with fail
            go_roundw
            case rel => exact ⟨k + 1, O2, _, last, ev, cn, by go_num, rfl, rfl, HS4.out.upd0 (by repeat (first | exact Upd.refl _ _ | assumption | apply Upd.drewN | apply Upd.drew | apply Upd.alloc)), own_upd HLA4.out (S := []) (by repeat (first | exact Upd.refl _ _ | assumption | apply Upd.drewN | apply Upd.drew | apply Upd.alloc)) (by simp), HO4.out, HI2.out, HU4.out.then (by repeat (first | exact Upd.refl _ _ | assumption | apply Upd.drewN | apply Upd.drew | apply Upd.alloc))⟩
            case measure => simp [intOf]; omega
        · by_cases k1 : kd = 1
          · subst k1
            have HCE := Lib.hid (show k = ops.length → win = mxI from fun h => by omega)
            clear k0 hlt
            have o0 := HOB.out.cell (j := 0) rfl
            have o1 := HOB.out.cell (j := 1) rfl
            have HCL := Lib.hid (shClose_calls w.heap.size a k O' G win X HS3.out (by omega) HU3.out.size)
            have HOK3 := Lib.hid HS3.out.ok
            go_wp2_with fail
            refine HCL.out.mono ?_
            rintro x w4 ⟨va, cw, G', rfl, hC, hW, O2, hS4, hO4, hN4, hU4⟩
            have HOC := Lib.hid (once_cl HOK3.out hC)
            obtain ⟨Ax, cx, rfl, hcw, hcx, _⟩ := own_shape hW.row
            have hcw : cw.length ≤ 9223372036854775807 := by unfold maxLen at hcx; omega
            have HW4 := Lib.hid hW
            have HOB4 := Lib.hid (hU4.hb HOB.out HNO.out)
            have HLA4 := Lib.hid (show w4.ownsRow w.heap.size 2 1 (.slice Al last.length cl) last.length (last.map (Value.int .i64)) from by
              obtain ⟨T, j1, j2⟩ := hU4
              exact own_upd HLA3.out j1 (fun g hg hm => HO.out g hg (j2 g hm)))
            have HS4 := Lib.hid (hS4.mono (Nat.le_succ k))
            have HO4 := Lib.hid (show ∀ g, (Value.slice Al last.length cl).ownBlock = some g → ¬ O2 g from fun g hg h => HO.out g hg (hO4 g h))
            have HLX := Lib.hid (show ∀ g, (Value.slice Al last.length cl).ownBlock = some g → g < X.heap.size from fun g hg => own_lt HLA3.out g hg)
            have HLW := Lib.hid (show ∀ g, (Value.slice Al last.length cl).ownBlock = some g → w.heap.size ≤ g from fun g hg => (HLA3.out.lt g hg).1)
            have HX4 := Lib.hid hU4.size
            have HU4 := Lib.hid (hU4.low HU3.out (fun b hb => (HS3.out.lo b hb).1))
            have HI2 := Lib.hid (HIN.out.cls hle HOC.out HCE.out)
            have hcn := HI2.out.eq
            have hcv := HI2.out.ev
            clear hcx hC hW hS4 hO4 hN4 hU4 HCL o0 o1
            go_wp2_with fail
            generalize wr = wo at *
            go_loopw [4, 6, 71] (fun vl vc i wr => ∃ q : Nat, q ≤ cw.length ∧ i = .int .i64 q ∧ vc = .int .i64 (cn + cSum (PLo cw q)) ∧ wr.ownsRow w.heap.size 2 1 vl (last.length + q) ((last ++ (cw.take q).map WCL.id).map (Value.int .i64)) ∧ (vl.ownBlock = (Value.slice Al last.length cl).ownBlock ∨ ∃ g, vl.ownBlock = some g ∧ w4.heap.size ≤ g) ∧ Upd (Value.slice Al last.length cl).ownBlock.toList w4 wr) (fun vl vc i _ => cw.length - (intOf i).toNat)
            case atStart => exact ⟨0, Nat.zero_le _, rfl, by simp [PLo, cSum], by simpa using own_upd HLA4.out (S := []) (by repeat (first | exact Upd.refl _ _ | assumption | apply Upd.drewN | apply Upd.drew | apply Upd.alloc)) (by simp), .inl rfl, (show Upd [] w4 _ from by repeat (first | exact Upd.refl _ _ | assumption | apply Upd.drewN | apply Upd.drew | apply Upd.alloc)).of0⟩
            case round =>
              obtain ⟨q, hq, rfl, rfl, hla, hlo, hU⟩ := hrel
              obtain ⟨Am, cm, rfl, hcm1, hcm2, _⟩ := own_shape hla
              have HL := Lib.hid hla
              have HLO := Lib.hid hlo
              have HU5 := Lib.hid hU
              clear hla hlo hU hcm1 hcm2
              have hlb : last.length ≤ 1048576 := by have := HIN.out.ll; omega
              have hqb : cw.length ≤ 1048577 := by have := HI2.out.ll; simp only [List.length_append, List.length_map] at this; omega
              by_cases hlt2 : q < cw.length
              · obtain ⟨c, hc⟩ : ∃ c, cw[q]? = some c := ⟨cw[q], List.getElem?_eq_getElem hlt2⟩
                have hcmm := List.mem_of_getElem? hc
                obtain ⟨b, m, e, hbB, ⟨x0, x1⟩, hwin, hus, A', m', eT⟩ := HW4.out.at_ hc
                have HPL := Lib.hid (plo_next hc)
                have HPM := Lib.hid (plo_all hc)
                have HTL := Lib.hid (last_ok HOC.out HIN.out.bd q hc)
                have hlo2 := HOC.out.lo c hcmm
                have hne := HOC.out.ne c hcmm
                have HPO := Lib.hid (HOC.out.pos c hcmm)
                have HOR := Lib.hid (HOC.out.ord c hcmm)
                have HTK := Lib.hid (show (cw.take (q + 1)).map WCL.id = (cw.take q).map WCL.id ++ [c.id] by rw [List.take_add_one, hc]; simp)
                obtain ⟨id, tv, us⟩ := c
                dsimp only at eT x0 x1 hus hlo2 hne
                subst eT
                injection e with e1 e2 e3
                subst e1 e3
                have HWI := Lib.hid hwin
                have hbn : b ∉ (Value.slice Al last.length cl).ownBlock.toList := fun h => by
                  have := HLX.out b (by simpa using h)
                  omega
                have x0 := HU5.out.cell x0 hbn
                have x1 := HU5.out.cell x1 hbn
                obtain ⟨W1, hW1⟩ : ∃ W1, W1 = wr.alloc (.cells #[.int .i64 id, .slice A' us.length m'] TWin) := ⟨_, rfl⟩
                have hUW : Upd [] wr W1 := by rw [hW1]; exact (Upd.refl [] wr).alloc _
                have HWB := Lib.hid (show HB W1 wr.heap.size TWin [.int .i64 id, .slice A' us.length m'] from by rw [hW1]; exact HB.new wr TWin [.int .i64 id, .slice A' us.length m'])
                have HL1 := Lib.hid (own_upd HL.out hUW (by simp))
                have HLS0 := Lib.hid HL.out
                have HOB5 := Lib.hid ((HOB4.out.upd HU5.out (fun h => by have := HLL.out _ (by simpa using h); omega)).upd0 hUW)
                have HU6 := Lib.hid (HU5.out.then0 hUW)
                have HWS := Lib.hid (HU5.out.size)
                clear hc e2 hwin hbn hUW hcmm
                go_upto_region 21 with fail
                rw [← hW1]
                clear hW1 x0 x1
                obtain ⟨L, hL⟩ : ∃ L, L = last ++ (cw.take q).map WCL.id := ⟨_, rfl⟩
                have hLl : L.length = last.length + q := by rw [hL, List.length_append, List.length_map, List.length_take]; omega
                rw [← hL] at HL1 HTL
                have HLE := Lib.hid hL
                have HLN := Lib.hid hLl
                have y0 := fun z : Wd [] W1 => z.h.cell (HWB.out.cell (j := 0) rfl) (by simp)
                have y1 := fun z : Wd [] W1 => z.h.cell (HWB.out.cell (j := 1) rfl) (by simp)
                have z1 := fun z : Wd [] W1 => z.h.cell (HOB5.out.cell (j := 1) rfl) (by simp)
                have d3 : decide (win < id) = false := decide_eq_false (by omega)
                have d4 : (us.length == 0) = false := beq_eq_false_iff_ne.2 (by omega)
                have d5 : ((us.length : Int) == 0) = false := beq_eq_false_iff_ne.2 (by omega)
                have hL0 : ∀ x ∈ L, x < id := HTL.out
                have hLm : L.length ≤ 2097153 := by omega
                have HLS := HLS0
                rw [← hL, ← hLl] at HLS
                rw [← hLl] at HL1 HLO ⊢
                clear hL hLl
                rcases Nat.eq_zero_or_pos L.length with hl | hl
                · have d0 : decide (0 < L.length) = false := decide_eq_false (by omega)
                  have HZ := Lib.hid hl
                  clear hL0 hl hlo2 hne
                  refine mix_start (n := 27) 27 (fun w' => ∃ p : Wd [] W1, w' = p.v) (by kernel_rfl) (by kernel_rfl) ?_
                  refine mix_quiet [true, true, true, true, true, true, true, true, true, true, true, true, true, true, true, true, true, true, true, true, true, true, true, true, true, true, true] 0 rfl (by kernel_rfl) (by kernel_rfl) (by kernel_rfl) (by kernel_rfl) ⟨⟨_, (Upd.refl [] W1).drew⟩, rfl⟩ ?_
                  simp only [maskL]
                  repeat (go_big_quiet_step (fail))
                  refine wpQuiet_nil ?_
                  refine mix_end (by kernel_rfl) ?_
                  clear y0 y1 z1
                  have k0 := HWB.out.cell (j := 0) rfl
                  have hal := ((Upd.refl [] W1).drew).alloc (.cells #[.int .i64 id] 2)
                  have HRO := Lib.hid (own_upd HL1.out hal (by simp))
                  have HNB := Lib.hid (HB.new W1.drew 2 [.int .i64 id])
                  have HWB2 := Lib.hid (HWB.out.upd0 hal)
                  have HUW2 := Lib.hid hal
                  have HUW3 := Lib.hid hal.size
                  have HSB := Lib.hid (show w.heap.size ≤ (W1.drew.alloc (.cells #[.int .i64 id] 2)).heap.size from by have h1 := HU4.out.size; have h2 := HU6.out.size; have h3 := hal.size; omega)
                  have HLM := Lib.hid hLm
                  clear hal
                  go_wp2_with (at_builtin; go_must (refine wp_append1 w.heap.size 51 2 _ 1 8 (.slice Am L.length cm) L.length (L.map (Value.int .i64)) [.int .i64 id] _ rfl rfl (by kernel_rfl) infoI rfl (by decide) (by decide) rfl rfl rfl (by simp [Value.oneCell']) HRO.out HNB.out HSB.out (by have := HLM.out; omega) ?_))
                  intro v1 w6 hown6 hU7 hat6
                  obtain ⟨A6, c6, rfl, _, _, _⟩ := own_shape hown6
                  have HOW := Lib.hid hown6
                  have hgw : ∀ x, (Value.slice Am L.length cm).ownBlock = some x → x ≠ wr.heap.size := fun x hx e => by
                    have := own_lt HLS.out x hx
                    omega
                  have HWB6 := Lib.hid (HWB2.out.upd hU7 (fun h => hgw _ (by simpa using h) rfl))
                  have hU8 : Upd (Value.slice Am L.length cm).ownBlock.toList W1 w6 := (HUW2.out.of0).then hU7
                  have HLO2 := Lib.hid (show ((Value.slice A6 (L.length + 1) c6).ownBlock = (Value.slice Al last.length cl).ownBlock ∨ ∃ g, (Value.slice A6 (L.length + 1) c6).ownBlock = some g ∧ w4.heap.size ≤ g) from by
                    rcases hat6 with h | ⟨g, h, h2⟩
                    · rw [h]
                      exact HLO.out
                    · refine .inr ⟨g, h, ?_⟩
                      have h3 := HU6.out.size
                      have h5 : W1.heap.size ≤ ((W1.alloc (.cells #[.int .i64 id] 2)).drew).heap.size := (((Upd.refl [] W1).alloc _).drew).size
                      omega)
                  have HU9 := Lib.hid (show Upd (Value.slice Al last.length cl).ownBlock.toList w4 w6 from HU6.out.trans hU8 (fun _ h => h) (fun g hg => by
                    rcases HLO.out with h | ⟨g2, h, h2⟩
                    · exact .inl (by rw [← h]; exact hg)
                    · exact .inr (by
                        rw [h] at hg
                        simp at hg
                        omega)))
                  clear hown6 hU7 hat6 hgw hU8
                  have t1 := HWB6.out.cell (j := 1) rfl
                  go_wp2_with fail
                  clear t1
                  generalize wr.heap.size = wb at *
                  generalize w6 = wp at *
                  go_loopw [6, 110] (fun vc j wr => ∃ r : Nat, r ≤ us.length ∧ j = .int .i64 r ∧ vc = .int .i64 (cn + cSum (PLo cw q ++ (us.take r).map (·.2))) ∧ HB wr wb TWin [.int .i64 id, .slice A' us.length m'] ∧ Upd [] wp wr) (fun vc j _ => us.length - (intOf j).toNat)
                  case atStart => exact ⟨0, Nat.zero_le _, rfl, by simp, HWB6.out.upd0 (by repeat (first | exact Upd.refl _ _ | assumption | apply Upd.drewN | apply Upd.drew | apply Upd.alloc)), by repeat (first | exact Upd.refl _ _ | assumption | apply Upd.drewN | apply Upd.drew | apply Upd.alloc)⟩
                  case round =>
                    obtain ⟨r, hr, rfl, rfl, hwb, hU⟩ := hrel
                    have HWB7 := Lib.hid hwb
                    have HU10 := Lib.hid hU
                    clear hwb hU
                    by_cases hlt3 : r < us.length
                    · obtain ⟨u, hu⟩ : ∃ u, us[r]? = some u := ⟨us[r], List.getElem?_eq_getElem hlt3⟩
                      obtain ⟨b2, m2, SA, SC, MA, MC, e, hb2, hc, _, _⟩ := HWI.out.at_ hu
                      injection e with e1 e2 e3
                      subst e1 e3
                      have hbn : b2 ∉ (Value.slice Al last.length cl).ownBlock.toList := fun h => by
                        have := HLX.out b2 (by simpa using h)
                        omega
                      have HTR := Lib.hid (show ∀ (x : Nat) (y : Value), w4.cell? ⟨b2, x, none⟩ = some y → wr.cell? ⟨b2, x, none⟩ = some y from fun x y hy => HU10.out.cell (HU9.out.cell hy hbn) (by simp))
                      have hpo := HPO.out u (List.mem_of_getElem? hu)
                      have htk : (us.take (r + 1)).map (·.2) = (us.take r).map (·.2) ++ [u.2] := by rw [List.take_add_one, hu]; simp
                      have hbd : 0 ≤ cSum (PLo cw q ++ (us.take r).map (·.2)) ∧ cSum (PLo cw q ++ (us.take (r + 1)).map (·.2)) ≤ cSum ((cw.map WCL.pl).flatMap (·.2)) := by
                        obtain ⟨M, hM⟩ := HPM.out
                        have hall : ∀ t ∈ (cw.map WCL.pl).flatMap (·.2), 1 ≤ t.c := fun t ht => by
                          obtain ⟨x, hx, ht⟩ := List.mem_flatMap.1 ht
                          obtain ⟨c2, hc2, rfl⟩ := List.mem_map.1 hx
                          obtain ⟨u2, hu2, rfl⟩ := List.mem_map.1 ht
                          exact HOC.out.pos c2 hc2 u2 hu2
                        have hsp : us.map (·.2) = (us.take (r + 1)).map (·.2) ++ (us.drop (r + 1)).map (·.2) := by rw [← List.map_append, List.take_append_drop]
                        rw [hsp, List.append_assoc, ← List.append_assoc (PLo cw q)] at hM
                        refine ⟨cSum_nn _ (fun t ht => hall t ?_), ?_⟩
                        · rw [hM, htk]
                          simp only [List.mem_append] at ht ⊢
                          rcases ht with ht | ht
                          · exact .inl (.inl ht)
                          · exact .inl (.inr (.inl ht))
                        · rw [hM, cSum_append (PLo cw q ++ (us.take (r + 1)).map (·.2))]
                          have := cSum_nn ((us.drop (r + 1)).map (·.2) ++ M) (fun t ht => hall t (by rw [hM]; exact List.mem_append_right _ ht))
                          omega
                      have hsn : cSum (PLo cw q ++ (us.take (r + 1)).map (·.2)) = cSum (PLo cw q ++ (us.take r).map (·.2)) + u.2.c := by
                        rw [htk, ← List.append_assoc, cSum_append _ [u.2]]
                        simp [cSum]
                      have HSN := Lib.hid hsn
                      have hbd1 := hbd.1
                      have hbd2 := hbd.2
                      rw [hsn] at hbd2
                      have hcc : ∀ x y, (talC u.2 SA SC MA MC)[x]? = some y → wr.cell? ⟨b2, r * 9 + x, none⟩ = some y := fun x y hy => HTR.out _ _ (hc x y hy)
                      have HRE := Lib.hid (show ∀ (r' : Nat), r = r' + 1 → ∃ (u' : TC × TL) (SA' : Option Addr) (SC' : Nat) (MA' : Option Addr) (MC' : Nat), (∀ x y, (talC u'.2 SA' SC' MA' MC')[x]? = some y → wr.cell? ⟨b2, r' * 9 + x, none⟩ = some y) ∧ ltM u'.2.met u.2.met = true from fun r' hr' => by
                        obtain ⟨u', hu'⟩ : ∃ u', us[r']? = some u' := ⟨us[r'], List.getElem?_eq_getElem (by omega)⟩
                        obtain ⟨b3, m3, SA', SC', MA', MC', e', _, hc', _, _⟩ := HWI.out.at_ hu'
                        injection e' with e1 e2 e3
                        injection e1 with e1
                        injection e1 with e1
                        subst e1
                        refine ⟨u', SA', SC', MA', MC', fun x y hy => HTR.out _ _ (hc' x y hy), ?_⟩
                        have hp := HOR.out
                        rw [List.pairwise_map] at hp
                        obtain ⟨l1, rfl⟩ := List.getElem?_eq_some_iff.1 hu'
                        obtain ⟨l2, rfl⟩ := List.getElem?_eq_some_iff.1 hu
                        exact List.pairwise_iff_getElem.1 hp r' r l1 l2 (by omega))
                      generalize u.2 = l at *
                      obtain ⟨P, hP⟩ : ∃ P, P = cSum (PLo cw q ++ (us.take r).map (·.2)) := ⟨_, rfl⟩
                      rw [← hP] at hbd1 hbd2 HSN ⊢
                      have c0 := hcc 0 _ rfl
                      have c1 := hcc 1 _ rfl
                      have c2 := hcc 2 _ rfl
                      have c3 := hcc 3 _ rfl
                      have c4 := hcc 4 _ rfl
                      have c5 := hcc 5 _ rfl
                      have c6 := hcc 6 _ rfl
                      have c7 := hcc 7 _ rfl
                      have c8 := hcc 8 _ rfl
                      simp only [Nat.add_zero] at c0
                      obtain ⟨W3, hW3⟩ : ∃ W3, W3 = wr.alloc (.cells #[.int .i64 l.k, .string l.n, .int .i64 l.c, .int .i64 (wh l.sum), .int .u64 (wl l.sum), .int .i64 (wh l.wt), .int .u64 (wl l.wt), .slice SA l.smp.length SC, .slice MA l.mem.length MC] TTal) := ⟨_, rfl⟩
                      have hUW : Upd [] wr W3 := by rw [hW3]; exact (Upd.refl [] wr).alloc _
                      have HT3 := Lib.hid (show HB W3 wr.heap.size TTal (talC l SA SC MA MC) from by rw [hW3]; exact HB.new wr TTal (talC l SA SC MA MC))
                      have HWB8 := Lib.hid (HWB7.out.upd0 hUW)
                      have HUW4 := Lib.hid hUW
                      have HU11 := Lib.hid (HU10.out.then hUW)
                      clear hc hcc e2 hu hbn htk hbd hsn hP hUW
                      go_upto_region 27 with fail
                      rw [← hW3]
                      clear hW3 c0 c1 c2 c3 c4 c5 c6 c7 c8
                      have d6 : decide (l.c < 1) = false := decide_eq_false (by omega)
                      have t2 := fun z : Wd [] W3 => z.h.cell (HT3.out.cell (j := 2) rfl) (by simp)
                      rcases Nat.eq_zero_or_pos r with hr0 | hr0
                      · have d7 : decide (0 < r) = false := decide_eq_false (by omega)
                        clear hr0
                        refine mix_start (n := 18) 18 (fun w' => ∃ p : Wd [] W3, w' = p.v) (by kernel_rfl) (by kernel_rfl) ?_
                        refine mix_quiet [true, true, true, true, true, true, true, true, true, true, true, true, true, true] 4 rfl (by kernel_rfl) (by kernel_rfl) (by kernel_rfl) (by kernel_rfl) ⟨⟨_, (Upd.refl [] W3).drew⟩, rfl⟩ ?_
                        simp only [maskL]
                        repeat (go_big_quiet_step (fail))
                        refine wpQuiet_nil ?_
                        clear t2
                        refine mix_one 14 (by kernel_rfl) (by kernel_rfl) rfl ?_
                        intro K QF hK
                        go_wp2_with fail
                        refine hK _ _ ⟨⟨_, ((Upd.refl [] W3).drew)⟩, rfl⟩ ?_
                        clear hK K QF
                        refine mix_quiet [false, false, false, false, false, false, false, false, false, false, false, false, false, false, false, true, true, true] 0 rfl (by kernel_rfl) (by kernel_rfl) (by kernel_rfl) (by kernel_rfl) ⟨⟨_, ((Upd.refl [] W3).drew)⟩, rfl⟩ ?_
                        simp only [maskL]
                        repeat (go_big_quiet_step (fail))
                        refine wpQuiet_nil ?_
                        refine mix_end (by kernel_rfl) ?_
                        have HT4 := Lib.hid (HT3.out.upd0 ((Upd.refl [] W3).drew))
                        have k2 := HT4.out.cell (j := 2) rfl
                        go_wp2_with fail
                        go_roundw
                        case rel => exact ⟨(r + 1), by omega, by go_num, by rw [HSN.out, Int.add_assoc], HWB8.out.upd0 ((Upd.refl [] W3).drew), HU11.out.then ((Upd.refl [] W3).drew)⟩
                        case measure => simp [intOf]; omega
                      · obtain ⟨r', hr'⟩ : ∃ r', r = r' + 1 := ⟨r - 1, by omega⟩
                        obtain ⟨u', SA', SC', MA', MC', hcp, hlt⟩ := HRE.out r' hr'
                        generalize u'.2 = l' at hcp hlt
                        subst hr'
                        have HLT := Lib.hid (show ltT (tcOf l' SA' SC' MA' MC') (tcOf l SA SC MA MC) = true from hlt)
                        have hct := HT3.out
                        have p0 := fun z : Wd [] W3 => z.h.cell (HUW4.out.cell (hcp 0 _ rfl) (by simp)) (by simp)
                        have p1 := fun z : Wd [] W3 => z.h.cell (HUW4.out.cell (hcp 1 _ rfl) (by simp)) (by simp)
                        have p2 := fun z : Wd [] W3 => z.h.cell (HUW4.out.cell (hcp 2 _ rfl) (by simp)) (by simp)
                        have p3 := fun z : Wd [] W3 => z.h.cell (HUW4.out.cell (hcp 3 _ rfl) (by simp)) (by simp)
                        have p4 := fun z : Wd [] W3 => z.h.cell (HUW4.out.cell (hcp 4 _ rfl) (by simp)) (by simp)
                        have p5 := fun z : Wd [] W3 => z.h.cell (HUW4.out.cell (hcp 5 _ rfl) (by simp)) (by simp)
                        have p6 := fun z : Wd [] W3 => z.h.cell (HUW4.out.cell (hcp 6 _ rfl) (by simp)) (by simp)
                        have p7 := fun z : Wd [] W3 => z.h.cell (HUW4.out.cell (hcp 7 _ rfl) (by simp)) (by simp)
                        have p8 := fun z : Wd [] W3 => z.h.cell (HUW4.out.cell (hcp 8 _ rfl) (by simp)) (by simp)
                        simp only [Nat.add_zero] at p0
                        have t0 := fun z : Wd [] W3 => z.h.cell (HT3.out.cell (j := 0) rfl) (by simp)
                        have t1 := fun z : Wd [] W3 => z.h.cell (HT3.out.cell (j := 1) rfl) (by simp)
                        have t3 := fun z : Wd [] W3 => z.h.cell (HT3.out.cell (j := 3) rfl) (by simp)
                        have t4 := fun z : Wd [] W3 => z.h.cell (HT3.out.cell (j := 4) rfl) (by simp)
                        have t5 := fun z : Wd [] W3 => z.h.cell (HT3.out.cell (j := 5) rfl) (by simp)
                        have t6 := fun z : Wd [] W3 => z.h.cell (HT3.out.cell (j := 6) rfl) (by simp)
                        have t7 := fun z : Wd [] W3 => z.h.cell (HT3.out.cell (j := 7) rfl) (by simp)
                        have t8 := fun z : Wd [] W3 => z.h.cell (HT3.out.cell (j := 8) rfl) (by simp)
                        have b1 := fun z : Wd [] W3 => z.h.cell (HWB8.out.cell (j := 1) rfl) (by simp)
                        have d7 : decide (0 < r' + 1) = true := decide_eq_true (by omega)
                        clear hcp hlt hct hr0
                        refine mix_start (n := 18) 18 (fun w' => ∃ p : Wd [] W3, w' = p.v) (by kernel_rfl) (by kernel_rfl) ?_
                        refine mix_quiet [true, true, true, true, true, true, true, true, true, true, true, true, true, true] 4 rfl (by kernel_rfl) (by kernel_rfl) (by kernel_rfl) (by kernel_rfl) ⟨⟨_, (Upd.refl [] W3).drew⟩, rfl⟩ ?_
                        simp only [maskL]
                        repeat (go_big_quiet_step (fail))
                        refine wpQuiet_nil ?_
                        clear t0 t1 t2 t3 t4 t5 t6 t7 t8 p0 p1 p2 p3 p4 p5 p6 p7 p8 b1
                        refine mix_one 14 (by kernel_rfl) (by kernel_rfl) rfl ?_
                        intro K QF hK
                        go_wp2_with fail
                        refine (below_calls (tcOf l' SA' SC' MA' MC') (tcOf l SA SC MA MC) _).mono ?_
                        rintro y w8 ⟨rfl, hg8⟩
                        rw [HLT.out]
                        have HU12 := Lib.hid (show Upd [] W3 w8 from (Upd.refl [] W3).drew.then hg8.upd)
                        clear hg8
                        go_wp2_with fail
                        refine hK _ _ ⟨⟨_, HU12.out⟩, rfl⟩ ?_
                        clear hK K QF
                        refine mix_quiet [false, false, false, false, false, false, false, false, false, false, false, false, false, false, false, true, true, true] 0 rfl (by kernel_rfl) (by kernel_rfl) (by kernel_rfl) (by kernel_rfl) ⟨⟨_, HU12.out⟩, rfl⟩ ?_
                        simp only [maskL]
                        repeat (go_big_quiet_step (fail))
                        refine wpQuiet_nil ?_
                        refine mix_end (by kernel_rfl) ?_
                        have HT4 := Lib.hid (HT3.out.upd0 HU12.out)
                        have k2 := HT4.out.cell (j := 2) rfl
                        go_wp2_with fail
                        go_roundw
                        case rel => exact ⟨(r' + 1 + 1), by omega, by go_num, by rw [HSN.out, Int.add_assoc], HWB8.out.upd0 HU12.out, HU11.out.then HU12.out⟩
                        case measure => simp [intOf]; omega
                    · obtain rfl : r = us.length := by omega
                      rw [List.take_length, ← HPL.out]
                      go_wp2_with fail
                      go_roundw
                      case rel => exact ⟨q + 1, by omega, by go_num, rfl, by have h := own_upd HOW.out HU10.out (by simp); rw [show last.length + (q + 1) = L.length + 1 by have := HLN.out; omega, HTK.out, ← List.append_assoc, ← HLE.out, List.map_append]; exact h, HLO2.out, HU9.out.then0 HU10.out⟩
                      case measure => simp [intOf]; omega
                · obtain ⟨y, hy⟩ : ∃ y, L[L.length - 1]? = some y := ⟨L[L.length - 1], List.getElem?_eq_getElem (by omega)⟩
                  obtain ⟨g, eA, cy⟩ := own_int HL1.out hy
                  have hyi := hL0 y (List.mem_of_getElem? hy)
                  have d0 : decide (0 < L.length) = true := decide_eq_true (by omega)
                  have d2 : decide (id ≤ y) = false := decide_eq_false (by omega)
                  have yc := fun z : Wd [] W1 => z.h.cell cy (by simp)
                  subst eA
                  clear hL0 hlo2 hne hy hyi cy
                  refine mix_start (n := 27) 27 (fun w' => ∃ p : Wd [] W1, w' = p.v) (by kernel_rfl) (by kernel_rfl) ?_
                  refine mix_quiet [true, true, true, true, true, true, true, true, true, true, true, true, true, true, true, true, true, true, true, true, true, true, true, true, true, true, true] 0 rfl (by kernel_rfl) (by kernel_rfl) (by kernel_rfl) (by kernel_rfl) ⟨⟨_, (Upd.refl [] W1).drew⟩, rfl⟩ ?_
                  simp only [maskL]
                  repeat (go_big_quiet_step (fail))
                  refine wpQuiet_nil ?_
                  refine mix_end (by kernel_rfl) ?_
                  clear yc
                  clear y0 y1 z1
                  have k0 := HWB.out.cell (j := 0) rfl
                  have hal := ((Upd.refl [] W1).drew).alloc (.cells #[.int .i64 id] 2)
                  have HRO := Lib.hid (own_upd HL1.out hal (by simp))
                  have HNB := Lib.hid (HB.new W1.drew 2 [.int .i64 id])
                  have HWB2 := Lib.hid (HWB.out.upd0 hal)
                  have HUW2 := Lib.hid hal
                  have HUW3 := Lib.hid hal.size
                  have HSB := Lib.hid (show w.heap.size ≤ (W1.drew.alloc (.cells #[.int .i64 id] 2)).heap.size from by have h1 := HU4.out.size; have h2 := HU6.out.size; have h3 := hal.size; omega)
                  have HLM := Lib.hid hLm
                  clear hal
                  go_wp2_with (at_builtin; go_must (refine wp_append1 w.heap.size 51 2 _ 1 8 (.slice (some ⟨g, 0, none⟩) L.length cm) L.length (L.map (Value.int .i64)) [.int .i64 id] _ rfl rfl (by kernel_rfl) infoI rfl (by decide) (by decide) rfl rfl rfl (by simp [Value.oneCell']) HRO.out HNB.out HSB.out (by have := HLM.out; omega) ?_))
                  intro v1 w6 hown6 hU7 hat6
                  obtain ⟨A6, c6, rfl, _, _, _⟩ := own_shape hown6
                  have HOW := Lib.hid hown6
                  have hgw : ∀ x, (Value.slice (some ⟨g, 0, none⟩) L.length cm).ownBlock = some x → x ≠ wr.heap.size := fun x hx e => by
                    have := own_lt HLS.out x hx
                    omega
                  have HWB6 := Lib.hid (HWB2.out.upd hU7 (fun h => hgw _ (by simpa using h) rfl))
                  have hU8 : Upd (Value.slice (some ⟨g, 0, none⟩) L.length cm).ownBlock.toList W1 w6 := (HUW2.out.of0).then hU7
                  have HLO2 := Lib.hid (show ((Value.slice A6 (L.length + 1) c6).ownBlock = (Value.slice Al last.length cl).ownBlock ∨ ∃ g, (Value.slice A6 (L.length + 1) c6).ownBlock = some g ∧ w4.heap.size ≤ g) from by
                    rcases hat6 with h | ⟨g, h, h2⟩
                    · rw [h]
                      exact HLO.out
                    · refine .inr ⟨g, h, ?_⟩
                      have h3 := HU6.out.size
                      have h5 : W1.heap.size ≤ ((W1.alloc (.cells #[.int .i64 id] 2)).drew).heap.size := (((Upd.refl [] W1).alloc _).drew).size
                      omega)
                  have HU9 := Lib.hid (show Upd (Value.slice Al last.length cl).ownBlock.toList w4 w6 from HU6.out.trans hU8 (fun _ h => h) (fun g hg => by
                    rcases HLO.out with h | ⟨g2, h, h2⟩
                    · exact .inl (by rw [← h]; exact hg)
                    · exact .inr (by
                        rw [h] at hg
                        simp at hg
                        omega)))
                  clear hown6 hU7 hat6 hgw hU8
                  have t1 := HWB6.out.cell (j := 1) rfl
                  go_wp2_with fail
                  clear t1
                  generalize wr.heap.size = wb at *
                  generalize w6 = wp at *
                  go_loopw [6, 110] (fun vc j wr => ∃ r : Nat, r ≤ us.length ∧ j = .int .i64 r ∧ vc = .int .i64 (cn + cSum (PLo cw q ++ (us.take r).map (·.2))) ∧ HB wr wb TWin [.int .i64 id, .slice A' us.length m'] ∧ Upd [] wp wr) (fun vc j _ => us.length - (intOf j).toNat)
                  case atStart => exact ⟨0, Nat.zero_le _, rfl, by simp, HWB6.out.upd0 (by repeat (first | exact Upd.refl _ _ | assumption | apply Upd.drewN | apply Upd.drew | apply Upd.alloc)), by repeat (first | exact Upd.refl _ _ | assumption | apply Upd.drewN | apply Upd.drew | apply Upd.alloc)⟩
                  case round =>
                    obtain ⟨r, hr, rfl, rfl, hwb, hU⟩ := hrel
                    have HWB7 := Lib.hid hwb
                    have HU10 := Lib.hid hU
                    clear hwb hU
                    by_cases hlt3 : r < us.length
                    · obtain ⟨u, hu⟩ : ∃ u, us[r]? = some u := ⟨us[r], List.getElem?_eq_getElem hlt3⟩
                      obtain ⟨b2, m2, SA, SC, MA, MC, e, hb2, hc, _, _⟩ := HWI.out.at_ hu
                      injection e with e1 e2 e3
                      subst e1 e3
                      have hbn : b2 ∉ (Value.slice Al last.length cl).ownBlock.toList := fun h => by
                        have := HLX.out b2 (by simpa using h)
                        omega
                      have HTR := Lib.hid (show ∀ (x : Nat) (y : Value), w4.cell? ⟨b2, x, none⟩ = some y → wr.cell? ⟨b2, x, none⟩ = some y from fun x y hy => HU10.out.cell (HU9.out.cell hy hbn) (by simp))
                      have hpo := HPO.out u (List.mem_of_getElem? hu)
                      have htk : (us.take (r + 1)).map (·.2) = (us.take r).map (·.2) ++ [u.2] := by rw [List.take_add_one, hu]; simp
                      have hbd : 0 ≤ cSum (PLo cw q ++ (us.take r).map (·.2)) ∧ cSum (PLo cw q ++ (us.take (r + 1)).map (·.2)) ≤ cSum ((cw.map WCL.pl).flatMap (·.2)) := by
                        obtain ⟨M, hM⟩ := HPM.out
                        have hall : ∀ t ∈ (cw.map WCL.pl).flatMap (·.2), 1 ≤ t.c := fun t ht => by
                          obtain ⟨x, hx, ht⟩ := List.mem_flatMap.1 ht
                          obtain ⟨c2, hc2, rfl⟩ := List.mem_map.1 hx
                          obtain ⟨u2, hu2, rfl⟩ := List.mem_map.1 ht
                          exact HOC.out.pos c2 hc2 u2 hu2
                        have hsp : us.map (·.2) = (us.take (r + 1)).map (·.2) ++ (us.drop (r + 1)).map (·.2) := by rw [← List.map_append, List.take_append_drop]
                        rw [hsp, List.append_assoc, ← List.append_assoc (PLo cw q)] at hM
                        refine ⟨cSum_nn _ (fun t ht => hall t ?_), ?_⟩
                        · rw [hM, htk]
                          simp only [List.mem_append] at ht ⊢
                          rcases ht with ht | ht
                          · exact .inl (.inl ht)
                          · exact .inl (.inr (.inl ht))
                        · rw [hM, cSum_append (PLo cw q ++ (us.take (r + 1)).map (·.2))]
                          have := cSum_nn ((us.drop (r + 1)).map (·.2) ++ M) (fun t ht => hall t (by rw [hM]; exact List.mem_append_right _ ht))
                          omega
                      have hsn : cSum (PLo cw q ++ (us.take (r + 1)).map (·.2)) = cSum (PLo cw q ++ (us.take r).map (·.2)) + u.2.c := by
                        rw [htk, ← List.append_assoc, cSum_append _ [u.2]]
                        simp [cSum]
                      have HSN := Lib.hid hsn
                      have hbd1 := hbd.1
                      have hbd2 := hbd.2
                      rw [hsn] at hbd2
                      have hcc : ∀ x y, (talC u.2 SA SC MA MC)[x]? = some y → wr.cell? ⟨b2, r * 9 + x, none⟩ = some y := fun x y hy => HTR.out _ _ (hc x y hy)
                      have HRE := Lib.hid (show ∀ (r' : Nat), r = r' + 1 → ∃ (u' : TC × TL) (SA' : Option Addr) (SC' : Nat) (MA' : Option Addr) (MC' : Nat), (∀ x y, (talC u'.2 SA' SC' MA' MC')[x]? = some y → wr.cell? ⟨b2, r' * 9 + x, none⟩ = some y) ∧ ltM u'.2.met u.2.met = true from fun r' hr' => by
                        obtain ⟨u', hu'⟩ : ∃ u', us[r']? = some u' := ⟨us[r'], List.getElem?_eq_getElem (by omega)⟩
                        obtain ⟨b3, m3, SA', SC', MA', MC', e', _, hc', _, _⟩ := HWI.out.at_ hu'
                        injection e' with e1 e2 e3
                        injection e1 with e1
                        injection e1 with e1
                        subst e1
                        refine ⟨u', SA', SC', MA', MC', fun x y hy => HTR.out _ _ (hc' x y hy), ?_⟩
                        have hp := HOR.out
                        rw [List.pairwise_map] at hp
                        obtain ⟨l1, rfl⟩ := List.getElem?_eq_some_iff.1 hu'
                        obtain ⟨l2, rfl⟩ := List.getElem?_eq_some_iff.1 hu
                        exact List.pairwise_iff_getElem.1 hp r' r l1 l2 (by omega))
                      generalize u.2 = l at *
                      obtain ⟨P, hP⟩ : ∃ P, P = cSum (PLo cw q ++ (us.take r).map (·.2)) := ⟨_, rfl⟩
                      rw [← hP] at hbd1 hbd2 HSN ⊢
                      have c0 := hcc 0 _ rfl
                      have c1 := hcc 1 _ rfl
                      have c2 := hcc 2 _ rfl
                      have c3 := hcc 3 _ rfl
                      have c4 := hcc 4 _ rfl
                      have c5 := hcc 5 _ rfl
                      have c6 := hcc 6 _ rfl
                      have c7 := hcc 7 _ rfl
                      have c8 := hcc 8 _ rfl
                      simp only [Nat.add_zero] at c0
                      obtain ⟨W3, hW3⟩ : ∃ W3, W3 = wr.alloc (.cells #[.int .i64 l.k, .string l.n, .int .i64 l.c, .int .i64 (wh l.sum), .int .u64 (wl l.sum), .int .i64 (wh l.wt), .int .u64 (wl l.wt), .slice SA l.smp.length SC, .slice MA l.mem.length MC] TTal) := ⟨_, rfl⟩
                      have hUW : Upd [] wr W3 := by rw [hW3]; exact (Upd.refl [] wr).alloc _
                      have HT3 := Lib.hid (show HB W3 wr.heap.size TTal (talC l SA SC MA MC) from by rw [hW3]; exact HB.new wr TTal (talC l SA SC MA MC))
                      have HWB8 := Lib.hid (HWB7.out.upd0 hUW)
                      have HUW4 := Lib.hid hUW
                      have HU11 := Lib.hid (HU10.out.then hUW)
                      clear hc hcc e2 hu hbn htk hbd hsn hP hUW
                      go_upto_region 27 with fail
                      rw [← hW3]
                      clear hW3 c0 c1 c2 c3 c4 c5 c6 c7 c8
                      have d6 : decide (l.c < 1) = false := decide_eq_false (by omega)
                      have t2 := fun z : Wd [] W3 => z.h.cell (HT3.out.cell (j := 2) rfl) (by simp)
                      rcases Nat.eq_zero_or_pos r with hr0 | hr0
                      · have d7 : decide (0 < r) = false := decide_eq_false (by omega)
                        clear hr0
                        refine mix_start (n := 18) 18 (fun w' => ∃ p : Wd [] W3, w' = p.v) (by kernel_rfl) (by kernel_rfl) ?_
                        refine mix_quiet [true, true, true, true, true, true, true, true, true, true, true, true, true, true] 4 rfl (by kernel_rfl) (by kernel_rfl) (by kernel_rfl) (by kernel_rfl) ⟨⟨_, (Upd.refl [] W3).drew⟩, rfl⟩ ?_
                        simp only [maskL]
                        repeat (go_big_quiet_step (fail))
                        refine wpQuiet_nil ?_
                        clear t2
                        refine mix_one 14 (by kernel_rfl) (by kernel_rfl) rfl ?_
                        intro K QF hK
                        go_wp2_with fail
                        refine hK _ _ ⟨⟨_, ((Upd.refl [] W3).drew)⟩, rfl⟩ ?_
                        clear hK K QF
                        refine mix_quiet [false, false, false, false, false, false, false, false, false, false, false, false, false, false, false, true, true, true] 0 rfl (by kernel_rfl) (by kernel_rfl) (by kernel_rfl) (by kernel_rfl) ⟨⟨_, ((Upd.refl [] W3).drew)⟩, rfl⟩ ?_
                        simp only [maskL]
                        repeat (go_big_quiet_step (fail))
                        refine wpQuiet_nil ?_
                        refine mix_end (by kernel_rfl) ?_
                        have HT4 := Lib.hid (HT3.out.upd0 ((Upd.refl [] W3).drew))
                        have k2 := HT4.out.cell (j := 2) rfl
                        go_wp2_with fail
                        go_roundw
                        case rel => exact ⟨(r + 1), by omega, by go_num, by rw [HSN.out, Int.add_assoc], HWB8.out.upd0 ((Upd.refl [] W3).drew), HU11.out.then ((Upd.refl [] W3).drew)⟩
                        case measure => simp [intOf]; omega
                      · obtain ⟨r', hr'⟩ : ∃ r', r = r' + 1 := ⟨r - 1, by omega⟩
                        obtain ⟨u', SA', SC', MA', MC', hcp, hlt⟩ := HRE.out r' hr'
                        generalize u'.2 = l' at hcp hlt
                        subst hr'
                        have HLT := Lib.hid (show ltT (tcOf l' SA' SC' MA' MC') (tcOf l SA SC MA MC) = true from hlt)
                        have hct := HT3.out
                        have p0 := fun z : Wd [] W3 => z.h.cell (HUW4.out.cell (hcp 0 _ rfl) (by simp)) (by simp)
                        have p1 := fun z : Wd [] W3 => z.h.cell (HUW4.out.cell (hcp 1 _ rfl) (by simp)) (by simp)
                        have p2 := fun z : Wd [] W3 => z.h.cell (HUW4.out.cell (hcp 2 _ rfl) (by simp)) (by simp)
                        have p3 := fun z : Wd [] W3 => z.h.cell (HUW4.out.cell (hcp 3 _ rfl) (by simp)) (by simp)
                        have p4 := fun z : Wd [] W3 => z.h.cell (HUW4.out.cell (hcp 4 _ rfl) (by simp)) (by simp)
                        have p5 := fun z : Wd [] W3 => z.h.cell (HUW4.out.cell (hcp 5 _ rfl) (by simp)) (by simp)
                        have p6 := fun z : Wd [] W3 => z.h.cell (HUW4.out.cell (hcp 6 _ rfl) (by simp)) (by simp)
                        have p7 := fun z : Wd [] W3 => z.h.cell (HUW4.out.cell (hcp 7 _ rfl) (by simp)) (by simp)
                        have p8 := fun z : Wd [] W3 => z.h.cell (HUW4.out.cell (hcp 8 _ rfl) (by simp)) (by simp)
                        simp only [Nat.add_zero] at p0
                        have t0 := fun z : Wd [] W3 => z.h.cell (HT3.out.cell (j := 0) rfl) (by simp)
                        have t1 := fun z : Wd [] W3 => z.h.cell (HT3.out.cell (j := 1) rfl) (by simp)
                        have t3 := fun z : Wd [] W3 => z.h.cell (HT3.out.cell (j := 3) rfl) (by simp)
                        have t4 := fun z : Wd [] W3 => z.h.cell (HT3.out.cell (j := 4) rfl) (by simp)
                        have t5 := fun z : Wd [] W3 => z.h.cell (HT3.out.cell (j := 5) rfl) (by simp)
                        have t6 := fun z : Wd [] W3 => z.h.cell (HT3.out.cell (j := 6) rfl) (by simp)
                        have t7 := fun z : Wd [] W3 => z.h.cell (HT3.out.cell (j := 7) rfl) (by simp)
                        have t8 := fun z : Wd [] W3 => z.h.cell (HT3.out.cell (j := 8) rfl) (by simp)
                        have b1 := fun z : Wd [] W3 => z.h.cell (HWB8.out.cell (j := 1) rfl) (by simp)
                        have d7 : decide (0 < r' + 1) = true := decide_eq_true (by omega)
                        clear hcp hlt hct hr0
                        refine mix_start (n := 18) 18 (fun w' => ∃ p : Wd [] W3, w' = p.v) (by kernel_rfl) (by kernel_rfl) ?_
                        refine mix_quiet [true, true, true, true, true, true, true, true, true, true, true, true, true, true] 4 rfl (by kernel_rfl) (by kernel_rfl) (by kernel_rfl) (by kernel_rfl) ⟨⟨_, (Upd.refl [] W3).drew⟩, rfl⟩ ?_
                        simp only [maskL]
                        repeat (go_big_quiet_step (fail))
                        refine wpQuiet_nil ?_
                        clear t0 t1 t2 t3 t4 t5 t6 t7 t8 p0 p1 p2 p3 p4 p5 p6 p7 p8 b1
                        refine mix_one 14 (by kernel_rfl) (by kernel_rfl) rfl ?_
                        intro K QF hK
                        go_wp2_with fail
                        refine (below_calls (tcOf l' SA' SC' MA' MC') (tcOf l SA SC MA MC) _).mono ?_
                        rintro y w8 ⟨rfl, hg8⟩
                        rw [HLT.out]
                        have HU12 := Lib.hid (show Upd [] W3 w8 from (Upd.refl [] W3).drew.then hg8.upd)
                        clear hg8
                        go_wp2_with fail
                        refine hK _ _ ⟨⟨_, HU12.out⟩, rfl⟩ ?_
                        clear hK K QF
                        refine mix_quiet [false, false, false, false, false, false, false, false, false, false, false, false, false, false, false, true, true, true] 0 rfl (by kernel_rfl) (by kernel_rfl) (by kernel_rfl) (by kernel_rfl) ⟨⟨_, HU12.out⟩, rfl⟩ ?_
                        simp only [maskL]
                        repeat (go_big_quiet_step (fail))
                        refine wpQuiet_nil ?_
                        refine mix_end (by kernel_rfl) ?_
                        have HT4 := Lib.hid (HT3.out.upd0 HU12.out)
                        have k2 := HT4.out.cell (j := 2) rfl
                        go_wp2_with fail
                        go_roundw
                        case rel => exact ⟨(r' + 1 + 1), by omega, by go_num, by rw [HSN.out, Int.add_assoc], HWB8.out.upd0 HU12.out, HU11.out.then HU12.out⟩
                        case measure => simp [intOf]; omega
                    · obtain rfl : r = us.length := by omega
                      rw [List.take_length, ← HPL.out]
                      go_wp2_with fail
                      go_roundw
                      case rel => exact ⟨q + 1, by omega, by go_num, rfl, by have h := own_upd HOW.out HU10.out (by simp); rw [show last.length + (q + 1) = L.length + 1 by have := HLN.out; omega, HTK.out, ← List.append_assoc, ← HLE.out, List.map_append]; exact h, HLO2.out, HU9.out.then0 HU10.out⟩
                      case measure => simp [intOf]; omega
              · obtain rfl : q = cw.length := by omega
                go_wp2_with fail
                go_roundw
                case rel =>
                  have hl1 := HL.out
                  rw [List.take_length] at hl1
                  have e1 : PLo cw cw.length = (cw.map WCL.pl).flatMap (·.2) := by unfold PLo; rw [List.take_length]
                  refine ⟨k + 1, O2, G', last ++ cw.map WCL.id, ev, cn + cSum (PLo cw cw.length), by go_num, rfl, rfl, HS4.out.upd HU5.out (fun b hb => HO4.out b (by simpa using hb)), by rw [List.length_append, List.length_map]; exact hl1, fun g hg => ?_, by rw [e1]; exact HI2.out, HU4.out.trans HU5.out (fun _ h => h) (fun g hg => .inr (HLW.out g (by simpa using hg)))⟩
                  rcases HLO.out with h | ⟨g2, h, h2⟩
                  · rw [h] at hg
                    exact HO4.out g hg
                  · rw [h] at hg
                    injection hg with hg
                    subst hg
                    exact fun ho => by have := (HS4.out.lo _ ho).2; omega
                case measure => simp [intOf]; omega
          · have o0 := HOB.out.cell (j := 0) rfl
            have d0 : (kd == 0) = false := by simpa using k0
            have d1 : (kd == 1) = false := by simpa using k1
            have hlk : k < ops.length := HLP.out.1
            have HI2 := Lib.hid (HIN.out.skip hlk)
            clear k0 k1
            go_wp2_with fail
            go_roundw
            case rel => exact ⟨k + 1, O', G, last, ev, cn, by go_num, rfl, rfl, (HS3.out.mono (Nat.le_succ k)).upd0 (by repeat (first | exact Upd.refl _ _ | assumption | apply Upd.drewN | apply Upd.drew | apply Upd.alloc)), own_upd HLA3.out (S := []) (by repeat (first | exact Upd.refl _ _ | assumption | apply Upd.drewN | apply Upd.drew | apply Upd.alloc)) (by simp), HO.out, HI2.out, HU3.out.then (by repeat (first | exact Upd.refl _ _ | assumption | apply Upd.drewN | apply Upd.drew | apply Upd.alloc))⟩
            case measure => simp [intOf]; omega
      · have hob := HB1.out
        have huo := HUW.out
        obtain ⟨win, hwin⟩ : ∃ win, win = mxI := ⟨_, rfl⟩
        have HCE := Lib.hid (show k = ops.length → win = mxI from fun _ => hwin)
        have dk : decide (k < ops.length) = false := decide_eq_false (by omega)
        rw [show ((1, mxI, evZ) : OpR) = (1, win, evZ) by rw [hwin]] at hob
        have HKQ := Lib.hid hkq
        clear hkq
        generalize evZ = e at hob
        clear hwin
        go_upto_region 13 with fail
        clear dk
        generalize W1 = X at *
        have HOB := Lib.hid hob
        have HS3 := Lib.hid (HS.out.upd0 huo)
        have HLA3 := Lib.hid (own_upd HLA.out huo (by simp))
        have HU3 := Lib.hid (HU.out.then huo)
        have HNO := Lib.hid (show ¬ O' wr.heap.size from fun h => by have := (HS.out.lo _ h).2; omega)
        have HLL := Lib.hid (show ∀ g, (Value.slice Al last.length cl).ownBlock = some g → g < wr.heap.size from fun g hg => own_lt HLA.out g hg)
        have HWX := Lib.hid huo.size
        have hk0 := HIN.out.cn0
        have hk1 := HIN.out.eq
        have hk2 := HIN.out.ev
        clear hob huo
        have o0 := HOB.out.cell (j := 0) rfl
        have o1 := HOB.out.cell (j := 1) rfl
        have HCL := Lib.hid (shClose_calls w.heap.size a k O' G win X HS3.out (by omega) HU3.out.size)
        have HOK3 := Lib.hid HS3.out.ok
        go_wp2_with fail
        refine HCL.out.mono ?_
        rintro x w4 ⟨va, cw, G', rfl, hC, hW, O2, hS4, hO4, hN4, hU4⟩
        have HOC := Lib.hid (once_cl HOK3.out hC)
        obtain ⟨Ax, cx, rfl, hcw, hcx, _⟩ := own_shape hW.row
        have hcw : cw.length ≤ 9223372036854775807 := by unfold maxLen at hcx; omega
        have HW4 := Lib.hid hW
        have HOB4 := Lib.hid (hU4.hb HOB.out HNO.out)
        have HLA4 := Lib.hid (show w4.ownsRow w.heap.size 2 1 (.slice Al last.length cl) last.length (last.map (Value.int .i64)) from by
          obtain ⟨T, j1, j2⟩ := hU4
          exact own_upd HLA3.out j1 (fun g hg hm => HO.out g hg (j2 g hm)))
        have HS4 := Lib.hid (hS4.mono (Nat.le_succ k))
        have HO4 := Lib.hid (show ∀ g, (Value.slice Al last.length cl).ownBlock = some g → ¬ O2 g from fun g hg h => HO.out g hg (hO4 g h))
        have HLX := Lib.hid (show ∀ g, (Value.slice Al last.length cl).ownBlock = some g → g < X.heap.size from fun g hg => own_lt HLA3.out g hg)
        have HLW := Lib.hid (show ∀ g, (Value.slice Al last.length cl).ownBlock = some g → w.heap.size ≤ g from fun g hg => (HLA3.out.lt g hg).1)
        have HX4 := Lib.hid hU4.size
        have HU4 := Lib.hid (hU4.low HU3.out (fun b hb => (HS3.out.lo b hb).1))
        have HI2 := Lib.hid (HIN.out.cls hle HOC.out HCE.out)
        have hcn := HI2.out.eq
        have hcv := HI2.out.ev
        clear hcx hC hW hS4 hO4 hN4 hU4 HCL o0 o1
        go_wp2_with fail
        generalize wr = wo at *
        go_loopw [4, 6, 71] (fun vl vc i wr => ∃ q : Nat, q ≤ cw.length ∧ i = .int .i64 q ∧ vc = .int .i64 (cn + cSum (PLo cw q)) ∧ wr.ownsRow w.heap.size 2 1 vl (last.length + q) ((last ++ (cw.take q).map WCL.id).map (Value.int .i64)) ∧ (vl.ownBlock = (Value.slice Al last.length cl).ownBlock ∨ ∃ g, vl.ownBlock = some g ∧ w4.heap.size ≤ g) ∧ Upd (Value.slice Al last.length cl).ownBlock.toList w4 wr) (fun vl vc i _ => cw.length - (intOf i).toNat)
        case atStart => exact ⟨0, Nat.zero_le _, rfl, by simp [PLo, cSum], by simpa using own_upd HLA4.out (S := []) (by repeat (first | exact Upd.refl _ _ | assumption | apply Upd.drewN | apply Upd.drew | apply Upd.alloc)) (by simp), .inl rfl, (show Upd [] w4 _ from by repeat (first | exact Upd.refl _ _ | assumption | apply Upd.drewN | apply Upd.drew | apply Upd.alloc)).of0⟩
        case round =>
          obtain ⟨q, hq, rfl, rfl, hla, hlo, hU⟩ := hrel
          obtain ⟨Am, cm, rfl, hcm1, hcm2, _⟩ := own_shape hla
          have HL := Lib.hid hla
          have HLO := Lib.hid hlo
          have HU5 := Lib.hid hU
          clear hla hlo hU hcm1 hcm2
          have hlb : last.length ≤ 1048576 := by have := HIN.out.ll; omega
          have hqb : cw.length ≤ 1048577 := by have := HI2.out.ll; simp only [List.length_append, List.length_map] at this; omega
          by_cases hlt2 : q < cw.length
          · obtain ⟨c, hc⟩ : ∃ c, cw[q]? = some c := ⟨cw[q], List.getElem?_eq_getElem hlt2⟩
            have hcmm := List.mem_of_getElem? hc
            obtain ⟨b, m, e, hbB, ⟨x0, x1⟩, hwin, hus, A', m', eT⟩ := HW4.out.at_ hc
            have HPL := Lib.hid (plo_next hc)
            have HPM := Lib.hid (plo_all hc)
            have HTL := Lib.hid (last_ok HOC.out HIN.out.bd q hc)
            have hlo2 := HOC.out.lo c hcmm
            have hne := HOC.out.ne c hcmm
            have HPO := Lib.hid (HOC.out.pos c hcmm)
            have HOR := Lib.hid (HOC.out.ord c hcmm)
            have HTK := Lib.hid (show (cw.take (q + 1)).map WCL.id = (cw.take q).map WCL.id ++ [c.id] by rw [List.take_add_one, hc]; simp)
            obtain ⟨id, tv, us⟩ := c
            dsimp only at eT x0 x1 hus hlo2 hne
            subst eT
            injection e with e1 e2 e3
            subst e1 e3
            have HWI := Lib.hid hwin
            have hbn : b ∉ (Value.slice Al last.length cl).ownBlock.toList := fun h => by
              have := HLX.out b (by simpa using h)
              omega
            have x0 := HU5.out.cell x0 hbn
            have x1 := HU5.out.cell x1 hbn
            obtain ⟨W1, hW1⟩ : ∃ W1, W1 = wr.alloc (.cells #[.int .i64 id, .slice A' us.length m'] TWin) := ⟨_, rfl⟩
            have hUW : Upd [] wr W1 := by rw [hW1]; exact (Upd.refl [] wr).alloc _
            have HWB := Lib.hid (show HB W1 wr.heap.size TWin [.int .i64 id, .slice A' us.length m'] from by rw [hW1]; exact HB.new wr TWin [.int .i64 id, .slice A' us.length m'])
            have HL1 := Lib.hid (own_upd HL.out hUW (by simp))
            have HLS0 := Lib.hid HL.out
            have HOB5 := Lib.hid ((HOB4.out.upd HU5.out (fun h => by have := HLL.out _ (by simpa using h); omega)).upd0 hUW)
            have HU6 := Lib.hid (HU5.out.then0 hUW)
            have HWS := Lib.hid (HU5.out.size)
            clear hc e2 hwin hbn hUW hcmm
            go_upto_region 21 with fail
            rw [← hW1]
            clear hW1 x0 x1
            obtain ⟨L, hL⟩ : ∃ L, L = last ++ (cw.take q).map WCL.id := ⟨_, rfl⟩
            have hLl : L.length = last.length + q := by rw [hL, List.length_append, List.length_map, List.length_take]; omega
            rw [← hL] at HL1 HTL
            have HLE := Lib.hid hL
            have HLN := Lib.hid hLl
            have y0 := fun z : Wd [] W1 => z.h.cell (HWB.out.cell (j := 0) rfl) (by simp)
            have y1 := fun z : Wd [] W1 => z.h.cell (HWB.out.cell (j := 1) rfl) (by simp)
            have z1 := fun z : Wd [] W1 => z.h.cell (HOB5.out.cell (j := 1) rfl) (by simp)
            have d3 : decide (win < id) = false := decide_eq_false (by omega)
            have d4 : (us.length == 0) = false := beq_eq_false_iff_ne.2 (by omega)
            have d5 : ((us.length : Int) == 0) = false := beq_eq_false_iff_ne.2 (by omega)
            have hL0 : ∀ x ∈ L, x < id := HTL.out
            have hLm : L.length ≤ 2097153 := by omega
            have HLS := HLS0
            rw [← hL, ← hLl] at HLS
            rw [← hLl] at HL1 HLO ⊢
            clear hL hLl
            rcases Nat.eq_zero_or_pos L.length with hl | hl
            · have d0 : decide (0 < L.length) = false := decide_eq_false (by omega)
              have HZ := Lib.hid hl
              clear hL0 hl hlo2 hne
              refine mix_start (n := 27) 27 (fun w' => ∃ p : Wd [] W1, w' = p.v) (by kernel_rfl) (by kernel_rfl) ?_
              refine mix_quiet [true, true, true, true, true, true, true, true, true, true, true, true, true, true, true, true, true, true, true, true, true, true, true, true, true, true, true] 0 rfl (by kernel_rfl) (by kernel_rfl) (by kernel_rfl) (by kernel_rfl) ⟨⟨_, (Upd.refl [] W1).drew⟩, rfl⟩ ?_
              simp only [maskL]
              repeat (go_big_quiet_step (fail))
              refine wpQuiet_nil ?_
              refine mix_end (by kernel_rfl) ?_
              clear y0 y1 z1
              have k0 := HWB.out.cell (j := 0) rfl
              have hal := ((Upd.refl [] W1).drew).alloc (.cells #[.int .i64 id] 2)
              have HRO := Lib.hid (own_upd HL1.out hal (by simp))
              have HNB := Lib.hid (HB.new W1.drew 2 [.int .i64 id])
              have HWB2 := Lib.hid (HWB.out.upd0 hal)
              have HUW2 := Lib.hid hal
              have HUW3 := Lib.hid hal.size
              have HSB := Lib.hid (show w.heap.size ≤ (W1.drew.alloc (.cells #[.int .i64 id] 2)).heap.size from by have h1 := HU4.out.size; have h2 := HU6.out.size; have h3 := hal.size; omega)
              have HLM := Lib.hid hLm
              clear hal
              go_wp2_with (at_builtin; go_must (refine wp_append1 w.heap.size 51 2 _ 1 8 (.slice Am L.length cm) L.length (L.map (Value.int .i64)) [.int .i64 id] _ rfl rfl (by kernel_rfl) infoI rfl (by decide) (by decide) rfl rfl rfl (by simp [Value.oneCell']) HRO.out HNB.out HSB.out (by have := HLM.out; omega) ?_))
              intro v1 w6 hown6 hU7 hat6
              obtain ⟨A6, c6, rfl, _, _, _⟩ := own_shape hown6
              have HOW := Lib.hid hown6
              have hgw : ∀ x, (Value.slice Am L.length cm).ownBlock = some x → x ≠ wr.heap.size := fun x hx e => by
                have := own_lt HLS.out x hx
                omega
              have HWB6 := Lib.hid (HWB2.out.upd hU7 (fun h => hgw _ (by simpa using h) rfl))
              have hU8 : Upd (Value.slice Am L.length cm).ownBlock.toList W1 w6 := (HUW2.out.of0).then hU7
              have HLO2 := Lib.hid (show ((Value.slice A6 (L.length + 1) c6).ownBlock = (Value.slice Al last.length cl).ownBlock ∨ ∃ g, (Value.slice A6 (L.length + 1) c6).ownBlock = some g ∧ w4.heap.size ≤ g) from by
                rcases hat6 with h | ⟨g, h, h2⟩
                · rw [h]
                  exact HLO.out
                · refine .inr ⟨g, h, ?_⟩
                  have h3 := HU6.out.size
                  have h5 : W1.heap.size ≤ ((W1.alloc (.cells #[.int .i64 id] 2)).drew).heap.size := (((Upd.refl [] W1).alloc _).drew).size
                  omega)
              have HU9 := Lib.hid (show Upd (Value.slice Al last.length cl).ownBlock.toList w4 w6 from HU6.out.trans hU8 (fun _ h => h) (fun g hg => by
                rcases HLO.out with h | ⟨g2, h, h2⟩
                · exact .inl (by rw [← h]; exact hg)
                · exact .inr (by
                    rw [h] at hg
                    simp at hg
                    omega)))
              clear hown6 hU7 hat6 hgw hU8
              have t1 := HWB6.out.cell (j := 1) rfl
              go_wp2_with fail
              clear t1
              generalize wr.heap.size = wb at *
              generalize w6 = wp at *
              go_loopw [6, 110] (fun vc j wr => ∃ r : Nat, r ≤ us.length ∧ j = .int .i64 r ∧ vc = .int .i64 (cn + cSum (PLo cw q ++ (us.take r).map (·.2))) ∧ HB wr wb TWin [.int .i64 id, .slice A' us.length m'] ∧ Upd [] wp wr) (fun vc j _ => us.length - (intOf j).toNat)
              case atStart => exact ⟨0, Nat.zero_le _, rfl, by simp, HWB6.out.upd0 (by repeat (first | exact Upd.refl _ _ | assumption | apply Upd.drewN | apply Upd.drew | apply Upd.alloc)), by repeat (first | exact Upd.refl _ _ | assumption | apply Upd.drewN | apply Upd.drew | apply Upd.alloc)⟩
              case round =>
                obtain ⟨r, hr, rfl, rfl, hwb, hU⟩ := hrel
                have HWB7 := Lib.hid hwb
                have HU10 := Lib.hid hU
                clear hwb hU
                by_cases hlt3 : r < us.length
                · obtain ⟨u, hu⟩ : ∃ u, us[r]? = some u := ⟨us[r], List.getElem?_eq_getElem hlt3⟩
                  obtain ⟨b2, m2, SA, SC, MA, MC, e, hb2, hc, _, _⟩ := HWI.out.at_ hu
                  injection e with e1 e2 e3
                  subst e1 e3
                  have hbn : b2 ∉ (Value.slice Al last.length cl).ownBlock.toList := fun h => by
                    have := HLX.out b2 (by simpa using h)
                    omega
                  have HTR := Lib.hid (show ∀ (x : Nat) (y : Value), w4.cell? ⟨b2, x, none⟩ = some y → wr.cell? ⟨b2, x, none⟩ = some y from fun x y hy => HU10.out.cell (HU9.out.cell hy hbn) (by simp))
                  have hpo := HPO.out u (List.mem_of_getElem? hu)
                  have htk : (us.take (r + 1)).map (·.2) = (us.take r).map (·.2) ++ [u.2] := by rw [List.take_add_one, hu]; simp
                  have hbd : 0 ≤ cSum (PLo cw q ++ (us.take r).map (·.2)) ∧ cSum (PLo cw q ++ (us.take (r + 1)).map (·.2)) ≤ cSum ((cw.map WCL.pl).flatMap (·.2)) := by
                    obtain ⟨M, hM⟩ := HPM.out
                    have hall : ∀ t ∈ (cw.map WCL.pl).flatMap (·.2), 1 ≤ t.c := fun t ht => by
                      obtain ⟨x, hx, ht⟩ := List.mem_flatMap.1 ht
                      obtain ⟨c2, hc2, rfl⟩ := List.mem_map.1 hx
                      obtain ⟨u2, hu2, rfl⟩ := List.mem_map.1 ht
                      exact HOC.out.pos c2 hc2 u2 hu2
                    have hsp : us.map (·.2) = (us.take (r + 1)).map (·.2) ++ (us.drop (r + 1)).map (·.2) := by rw [← List.map_append, List.take_append_drop]
                    rw [hsp, List.append_assoc, ← List.append_assoc (PLo cw q)] at hM
                    refine ⟨cSum_nn _ (fun t ht => hall t ?_), ?_⟩
                    · rw [hM, htk]
                      simp only [List.mem_append] at ht ⊢
                      rcases ht with ht | ht
                      · exact .inl (.inl ht)
                      · exact .inl (.inr (.inl ht))
                    · rw [hM, cSum_append (PLo cw q ++ (us.take (r + 1)).map (·.2))]
                      have := cSum_nn ((us.drop (r + 1)).map (·.2) ++ M) (fun t ht => hall t (by rw [hM]; exact List.mem_append_right _ ht))
                      omega
                  have hsn : cSum (PLo cw q ++ (us.take (r + 1)).map (·.2)) = cSum (PLo cw q ++ (us.take r).map (·.2)) + u.2.c := by
                    rw [htk, ← List.append_assoc, cSum_append _ [u.2]]
                    simp [cSum]
                  have HSN := Lib.hid hsn
                  have hbd1 := hbd.1
                  have hbd2 := hbd.2
                  rw [hsn] at hbd2
                  have hcc : ∀ x y, (talC u.2 SA SC MA MC)[x]? = some y → wr.cell? ⟨b2, r * 9 + x, none⟩ = some y := fun x y hy => HTR.out _ _ (hc x y hy)
                  have HRE := Lib.hid (show ∀ (r' : Nat), r = r' + 1 → ∃ (u' : TC × TL) (SA' : Option Addr) (SC' : Nat) (MA' : Option Addr) (MC' : Nat), (∀ x y, (talC u'.2 SA' SC' MA' MC')[x]? = some y → wr.cell? ⟨b2, r' * 9 + x, none⟩ = some y) ∧ ltM u'.2.met u.2.met = true from fun r' hr' => by
                    obtain ⟨u', hu'⟩ : ∃ u', us[r']? = some u' := ⟨us[r'], List.getElem?_eq_getElem (by omega)⟩
                    obtain ⟨b3, m3, SA', SC', MA', MC', e', _, hc', _, _⟩ := HWI.out.at_ hu'
                    injection e' with e1 e2 e3
                    injection e1 with e1
                    injection e1 with e1
                    subst e1
                    refine ⟨u', SA', SC', MA', MC', fun x y hy => HTR.out _ _ (hc' x y hy), ?_⟩
                    have hp := HOR.out
                    rw [List.pairwise_map] at hp
                    obtain ⟨l1, rfl⟩ := List.getElem?_eq_some_iff.1 hu'
                    obtain ⟨l2, rfl⟩ := List.getElem?_eq_some_iff.1 hu
                    exact List.pairwise_iff_getElem.1 hp r' r l1 l2 (by omega))
                  generalize u.2 = l at *
                  obtain ⟨P, hP⟩ : ∃ P, P = cSum (PLo cw q ++ (us.take r).map (·.2)) := ⟨_, rfl⟩
                  rw [← hP] at hbd1 hbd2 HSN ⊢
                  have c0 := hcc 0 _ rfl
                  have c1 := hcc 1 _ rfl
                  have c2 := hcc 2 _ rfl
                  have c3 := hcc 3 _ rfl
                  have c4 := hcc 4 _ rfl
                  have c5 := hcc 5 _ rfl
                  have c6 := hcc 6 _ rfl
                  have c7 := hcc 7 _ rfl
                  have c8 := hcc 8 _ rfl
                  simp only [Nat.add_zero] at c0
                  obtain ⟨W3, hW3⟩ : ∃ W3, W3 = wr.alloc (.cells #[.int .i64 l.k, .string l.n, .int .i64 l.c, .int .i64 (wh l.sum), .int .u64 (wl l.sum), .int .i64 (wh l.wt), .int .u64 (wl l.wt), .slice SA l.smp.length SC, .slice MA l.mem.length MC] TTal) := ⟨_, rfl⟩
                  have hUW : Upd [] wr W3 := by rw [hW3]; exact (Upd.refl [] wr).alloc _
                  have HT3 := Lib.hid (show HB W3 wr.heap.size TTal (talC l SA SC MA MC) from by rw [hW3]; exact HB.new wr TTal (talC l SA SC MA MC))
                  have HWB8 := Lib.hid (HWB7.out.upd0 hUW)
                  have HUW4 := Lib.hid hUW
                  have HU11 := Lib.hid (HU10.out.then hUW)
                  clear hc hcc e2 hu hbn htk hbd hsn hP hUW
                  go_upto_region 27 with fail
                  rw [← hW3]
                  clear hW3 c0 c1 c2 c3 c4 c5 c6 c7 c8
                  have d6 : decide (l.c < 1) = false := decide_eq_false (by omega)
                  have t2 := fun z : Wd [] W3 => z.h.cell (HT3.out.cell (j := 2) rfl) (by simp)
                  rcases Nat.eq_zero_or_pos r with hr0 | hr0
                  · have d7 : decide (0 < r) = false := decide_eq_false (by omega)
                    clear hr0
                    refine mix_start (n := 18) 18 (fun w' => ∃ p : Wd [] W3, w' = p.v) (by kernel_rfl) (by kernel_rfl) ?_
                    refine mix_quiet [true, true, true, true, true, true, true, true, true, true, true, true, true, true] 4 rfl (by kernel_rfl) (by kernel_rfl) (by kernel_rfl) (by kernel_rfl) ⟨⟨_, (Upd.refl [] W3).drew⟩, rfl⟩ ?_
                    simp only [maskL]
                    repeat (go_big_quiet_step (fail))
                    refine wpQuiet_nil ?_
                    clear t2
                    refine mix_one 14 (by kernel_rfl) (by kernel_rfl) rfl ?_
                    intro K QF hK
                    go_wp2_with fail
                    refine hK _ _ ⟨⟨_, ((Upd.refl [] W3).drew)⟩, rfl⟩ ?_
                    clear hK K QF
                    refine mix_quiet [false, false, false, false, false, false, false, false, false, false, false, false, false, false, false, true, true, true] 0 rfl (by kernel_rfl) (by kernel_rfl) (by kernel_rfl) (by kernel_rfl) ⟨⟨_, ((Upd.refl [] W3).drew)⟩, rfl⟩ ?_
                    simp only [maskL]
                    repeat (go_big_quiet_step (fail))
                    refine wpQuiet_nil ?_
                    refine mix_end (by kernel_rfl) ?_
                    have HT4 := Lib.hid (HT3.out.upd0 ((Upd.refl [] W3).drew))
                    have k2 := HT4.out.cell (j := 2) rfl
                    go_wp2_with fail
                    go_roundw
                    case rel => exact ⟨(r + 1), by omega, by go_num, by rw [HSN.out, Int.add_assoc], HWB8.out.upd0 ((Upd.refl [] W3).drew), HU11.out.then ((Upd.refl [] W3).drew)⟩
                    case measure => simp [intOf]; omega
                  · obtain ⟨r', hr'⟩ : ∃ r', r = r' + 1 := ⟨r - 1, by omega⟩
                    obtain ⟨u', SA', SC', MA', MC', hcp, hlt⟩ := HRE.out r' hr'
                    generalize u'.2 = l' at hcp hlt
                    subst hr'
                    have HLT := Lib.hid (show ltT (tcOf l' SA' SC' MA' MC') (tcOf l SA SC MA MC) = true from hlt)
                    have hct := HT3.out
                    have p0 := fun z : Wd [] W3 => z.h.cell (HUW4.out.cell (hcp 0 _ rfl) (by simp)) (by simp)
                    have p1 := fun z : Wd [] W3 => z.h.cell (HUW4.out.cell (hcp 1 _ rfl) (by simp)) (by simp)
                    have p2 := fun z : Wd [] W3 => z.h.cell (HUW4.out.cell (hcp 2 _ rfl) (by simp)) (by simp)
                    have p3 := fun z : Wd [] W3 => z.h.cell (HUW4.out.cell (hcp 3 _ rfl) (by simp)) (by simp)
                    have p4 := fun z : Wd [] W3 => z.h.cell (HUW4.out.cell (hcp 4 _ rfl) (by simp)) (by simp)
                    have p5 := fun z : Wd [] W3 => z.h.cell (HUW4.out.cell (hcp 5 _ rfl) (by simp)) (by simp)
                    have p6 := fun z : Wd [] W3 => z.h.cell (HUW4.out.cell (hcp 6 _ rfl) (by simp)) (by simp)
                    have p7 := fun z : Wd [] W3 => z.h.cell (HUW4.out.cell (hcp 7 _ rfl) (by simp)) (by simp)
                    have p8 := fun z : Wd [] W3 => z.h.cell (HUW4.out.cell (hcp 8 _ rfl) (by simp)) (by simp)
                    simp only [Nat.add_zero] at p0
                    have t0 := fun z : Wd [] W3 => z.h.cell (HT3.out.cell (j := 0) rfl) (by simp)
                    have t1 := fun z : Wd [] W3 => z.h.cell (HT3.out.cell (j := 1) rfl) (by simp)
                    have t3 := fun z : Wd [] W3 => z.h.cell (HT3.out.cell (j := 3) rfl) (by simp)
                    have t4 := fun z : Wd [] W3 => z.h.cell (HT3.out.cell (j := 4) rfl) (by simp)
                    have t5 := fun z : Wd [] W3 => z.h.cell (HT3.out.cell (j := 5) rfl) (by simp)
                    have t6 := fun z : Wd [] W3 => z.h.cell (HT3.out.cell (j := 6) rfl) (by simp)
                    have t7 := fun z : Wd [] W3 => z.h.cell (HT3.out.cell (j := 7) rfl) (by simp)
                    have t8 := fun z : Wd [] W3 => z.h.cell (HT3.out.cell (j := 8) rfl) (by simp)
                    have b1 := fun z : Wd [] W3 => z.h.cell (HWB8.out.cell (j := 1) rfl) (by simp)
                    have d7 : decide (0 < r' + 1) = true := decide_eq_true (by omega)
                    clear hcp hlt hct hr0
                    refine mix_start (n := 18) 18 (fun w' => ∃ p : Wd [] W3, w' = p.v) (by kernel_rfl) (by kernel_rfl) ?_
                    refine mix_quiet [true, true, true, true, true, true, true, true, true, true, true, true, true, true] 4 rfl (by kernel_rfl) (by kernel_rfl) (by kernel_rfl) (by kernel_rfl) ⟨⟨_, (Upd.refl [] W3).drew⟩, rfl⟩ ?_
                    simp only [maskL]
                    repeat (go_big_quiet_step (fail))
                    refine wpQuiet_nil ?_
                    clear t0 t1 t2 t3 t4 t5 t6 t7 t8 p0 p1 p2 p3 p4 p5 p6 p7 p8 b1
                    refine mix_one 14 (by kernel_rfl) (by kernel_rfl) rfl ?_
                    intro K QF hK
                    go_wp2_with fail
                    refine (below_calls (tcOf l' SA' SC' MA' MC') (tcOf l SA SC MA MC) _).mono ?_
                    rintro y w8 ⟨rfl, hg8⟩
                    rw [HLT.out]
                    have HU12 := Lib.hid (show Upd [] W3 w8 from (Upd.refl [] W3).drew.then hg8.upd)
                    clear hg8
                    go_wp2_with fail
                    refine hK _ _ ⟨⟨_, HU12.out⟩, rfl⟩ ?_
                    clear hK K QF
                    refine mix_quiet [false, false, false, false, false, false, false, false, false, false, false, false, false, false, false, true, true, true] 0 rfl (by kernel_rfl) (by kernel_rfl) (by kernel_rfl) (by kernel_rfl) ⟨⟨_, HU12.out⟩, rfl⟩ ?_
                    simp only [maskL]
                    repeat (go_big_quiet_step (fail))
                    refine wpQuiet_nil ?_
                    refine mix_end (by kernel_rfl) ?_
                    have HT4 := Lib.hid (HT3.out.upd0 HU12.out)
                    have k2 := HT4.out.cell (j := 2) rfl
                    go_wp2_with fail
                    go_roundw
                    case rel => exact ⟨(r' + 1 + 1), by omega, by go_num, by rw [HSN.out, Int.add_assoc], HWB8.out.upd0 HU12.out, HU11.out.then HU12.out⟩
                    case measure => simp [intOf]; omega
                · obtain rfl : r = us.length := by omega
                  rw [List.take_length, ← HPL.out]
                  go_wp2_with fail
                  go_roundw
                  case rel => exact ⟨q + 1, by omega, by go_num, rfl, by have h := own_upd HOW.out HU10.out (by simp); rw [show last.length + (q + 1) = L.length + 1 by have := HLN.out; omega, HTK.out, ← List.append_assoc, ← HLE.out, List.map_append]; exact h, HLO2.out, HU9.out.then0 HU10.out⟩
                  case measure => simp [intOf]; omega
            · obtain ⟨y, hy⟩ : ∃ y, L[L.length - 1]? = some y := ⟨L[L.length - 1], List.getElem?_eq_getElem (by omega)⟩
              obtain ⟨g, eA, cy⟩ := own_int HL1.out hy
              have hyi := hL0 y (List.mem_of_getElem? hy)
              have d0 : decide (0 < L.length) = true := decide_eq_true (by omega)
              have d2 : decide (id ≤ y) = false := decide_eq_false (by omega)
              have yc := fun z : Wd [] W1 => z.h.cell cy (by simp)
              subst eA
              clear hL0 hlo2 hne hy hyi cy
              refine mix_start (n := 27) 27 (fun w' => ∃ p : Wd [] W1, w' = p.v) (by kernel_rfl) (by kernel_rfl) ?_
              refine mix_quiet [true, true, true, true, true, true, true, true, true, true, true, true, true, true, true, true, true, true, true, true, true, true, true, true, true, true, true] 0 rfl (by kernel_rfl) (by kernel_rfl) (by kernel_rfl) (by kernel_rfl) ⟨⟨_, (Upd.refl [] W1).drew⟩, rfl⟩ ?_
              simp only [maskL]
              repeat (go_big_quiet_step (fail))
              refine wpQuiet_nil ?_
              refine mix_end (by kernel_rfl) ?_
              clear yc
              clear y0 y1 z1
              have k0 := HWB.out.cell (j := 0) rfl
              have hal := ((Upd.refl [] W1).drew).alloc (.cells #[.int .i64 id] 2)
              have HRO := Lib.hid (own_upd HL1.out hal (by simp))
              have HNB := Lib.hid (HB.new W1.drew 2 [.int .i64 id])
              have HWB2 := Lib.hid (HWB.out.upd0 hal)
              have HUW2 := Lib.hid hal
              have HUW3 := Lib.hid hal.size
              have HSB := Lib.hid (show w.heap.size ≤ (W1.drew.alloc (.cells #[.int .i64 id] 2)).heap.size from by have h1 := HU4.out.size; have h2 := HU6.out.size; have h3 := hal.size; omega)
              have HLM := Lib.hid hLm
              clear hal
              go_wp2_with (at_builtin; go_must (refine wp_append1 w.heap.size 51 2 _ 1 8 (.slice (some ⟨g, 0, none⟩) L.length cm) L.length (L.map (Value.int .i64)) [.int .i64 id] _ rfl rfl (by kernel_rfl) infoI rfl (by decide) (by decide) rfl rfl rfl (by simp [Value.oneCell']) HRO.out HNB.out HSB.out (by have := HLM.out; omega) ?_))
              intro v1 w6 hown6 hU7 hat6
              obtain ⟨A6, c6, rfl, _, _, _⟩ := own_shape hown6
              have HOW := Lib.hid hown6
              have hgw : ∀ x, (Value.slice (some ⟨g, 0, none⟩) L.length cm).ownBlock = some x → x ≠ wr.heap.size := fun x hx e => by
                have := own_lt HLS.out x hx
                omega
              have HWB6 := Lib.hid (HWB2.out.upd hU7 (fun h => hgw _ (by simpa using h) rfl))
              have hU8 : Upd (Value.slice (some ⟨g, 0, none⟩) L.length cm).ownBlock.toList W1 w6 := (HUW2.out.of0).then hU7
              have HLO2 := Lib.hid (show ((Value.slice A6 (L.length + 1) c6).ownBlock = (Value.slice Al last.length cl).ownBlock ∨ ∃ g, (Value.slice A6 (L.length + 1) c6).ownBlock = some g ∧ w4.heap.size ≤ g) from by
                rcases hat6 with h | ⟨g, h, h2⟩
                · rw [h]
                  exact HLO.out
                · refine .inr ⟨g, h, ?_⟩
                  have h3 := HU6.out.size
                  have h5 : W1.heap.size ≤ ((W1.alloc (.cells #[.int .i64 id] 2)).drew).heap.size := (((Upd.refl [] W1).alloc _).drew).size
                  omega)
              have HU9 := Lib.hid (show Upd (Value.slice Al last.length cl).ownBlock.toList w4 w6 from HU6.out.trans hU8 (fun _ h => h) (fun g hg => by
                rcases HLO.out with h | ⟨g2, h, h2⟩
                · exact .inl (by rw [← h]; exact hg)
                · exact .inr (by
                    rw [h] at hg
                    simp at hg
                    omega)))
              clear hown6 hU7 hat6 hgw hU8
              have t1 := HWB6.out.cell (j := 1) rfl
              go_wp2_with fail
              clear t1
              generalize wr.heap.size = wb at *
              generalize w6 = wp at *
              go_loopw [6, 110] (fun vc j wr => ∃ r : Nat, r ≤ us.length ∧ j = .int .i64 r ∧ vc = .int .i64 (cn + cSum (PLo cw q ++ (us.take r).map (·.2))) ∧ HB wr wb TWin [.int .i64 id, .slice A' us.length m'] ∧ Upd [] wp wr) (fun vc j _ => us.length - (intOf j).toNat)
              case atStart => exact ⟨0, Nat.zero_le _, rfl, by simp, HWB6.out.upd0 (by repeat (first | exact Upd.refl _ _ | assumption | apply Upd.drewN | apply Upd.drew | apply Upd.alloc)), by repeat (first | exact Upd.refl _ _ | assumption | apply Upd.drewN | apply Upd.drew | apply Upd.alloc)⟩
              case round =>
                obtain ⟨r, hr, rfl, rfl, hwb, hU⟩ := hrel
                have HWB7 := Lib.hid hwb
                have HU10 := Lib.hid hU
                clear hwb hU
                by_cases hlt3 : r < us.length
                · obtain ⟨u, hu⟩ : ∃ u, us[r]? = some u := ⟨us[r], List.getElem?_eq_getElem hlt3⟩
                  obtain ⟨b2, m2, SA, SC, MA, MC, e, hb2, hc, _, _⟩ := HWI.out.at_ hu
                  injection e with e1 e2 e3
                  subst e1 e3
                  have hbn : b2 ∉ (Value.slice Al last.length cl).ownBlock.toList := fun h => by
                    have := HLX.out b2 (by simpa using h)
                    omega
                  have HTR := Lib.hid (show ∀ (x : Nat) (y : Value), w4.cell? ⟨b2, x, none⟩ = some y → wr.cell? ⟨b2, x, none⟩ = some y from fun x y hy => HU10.out.cell (HU9.out.cell hy hbn) (by simp))
                  have hpo := HPO.out u (List.mem_of_getElem? hu)
                  have htk : (us.take (r + 1)).map (·.2) = (us.take r).map (·.2) ++ [u.2] := by rw [List.take_add_one, hu]; simp
                  have hbd : 0 ≤ cSum (PLo cw q ++ (us.take r).map (·.2)) ∧ cSum (PLo cw q ++ (us.take (r + 1)).map (·.2)) ≤ cSum ((cw.map WCL.pl).flatMap (·.2)) := by
                    obtain ⟨M, hM⟩ := HPM.out
                    have hall : ∀ t ∈ (cw.map WCL.pl).flatMap (·.2), 1 ≤ t.c := fun t ht => by
                      obtain ⟨x, hx, ht⟩ := List.mem_flatMap.1 ht
                      obtain ⟨c2, hc2, rfl⟩ := List.mem_map.1 hx
                      obtain ⟨u2, hu2, rfl⟩ := List.mem_map.1 ht
                      exact HOC.out.pos c2 hc2 u2 hu2
                    have hsp : us.map (·.2) = (us.take (r + 1)).map (·.2) ++ (us.drop (r + 1)).map (·.2) := by rw [← List.map_append, List.take_append_drop]
                    rw [hsp, List.append_assoc, ← List.append_assoc (PLo cw q)] at hM
                    refine ⟨cSum_nn _ (fun t ht => hall t ?_), ?_⟩
                    · rw [hM, htk]
                      simp only [List.mem_append] at ht ⊢
                      rcases ht with ht | ht
                      · exact .inl (.inl ht)
                      · exact .inl (.inr (.inl ht))
                    · rw [hM, cSum_append (PLo cw q ++ (us.take (r + 1)).map (·.2))]
                      have := cSum_nn ((us.drop (r + 1)).map (·.2) ++ M) (fun t ht => hall t (by rw [hM]; exact List.mem_append_right _ ht))
                      omega
                  have hsn : cSum (PLo cw q ++ (us.take (r + 1)).map (·.2)) = cSum (PLo cw q ++ (us.take r).map (·.2)) + u.2.c := by
                    rw [htk, ← List.append_assoc, cSum_append _ [u.2]]
                    simp [cSum]
                  have HSN := Lib.hid hsn
                  have hbd1 := hbd.1
                  have hbd2 := hbd.2
                  rw [hsn] at hbd2
                  have hcc : ∀ x y, (talC u.2 SA SC MA MC)[x]? = some y → wr.cell? ⟨b2, r * 9 + x, none⟩ = some y := fun x y hy => HTR.out _ _ (hc x y hy)
                  have HRE := Lib.hid (show ∀ (r' : Nat), r = r' + 1 → ∃ (u' : TC × TL) (SA' : Option Addr) (SC' : Nat) (MA' : Option Addr) (MC' : Nat), (∀ x y, (talC u'.2 SA' SC' MA' MC')[x]? = some y → wr.cell? ⟨b2, r' * 9 + x, none⟩ = some y) ∧ ltM u'.2.met u.2.met = true from fun r' hr' => by
                    obtain ⟨u', hu'⟩ : ∃ u', us[r']? = some u' := ⟨us[r'], List.getElem?_eq_getElem (by omega)⟩
                    obtain ⟨b3, m3, SA', SC', MA', MC', e', _, hc', _, _⟩ := HWI.out.at_ hu'
                    injection e' with e1 e2 e3
                    injection e1 with e1
                    injection e1 with e1
                    subst e1
                    refine ⟨u', SA', SC', MA', MC', fun x y hy => HTR.out _ _ (hc' x y hy), ?_⟩
                    have hp := HOR.out
                    rw [List.pairwise_map] at hp
                    obtain ⟨l1, rfl⟩ := List.getElem?_eq_some_iff.1 hu'
                    obtain ⟨l2, rfl⟩ := List.getElem?_eq_some_iff.1 hu
                    exact List.pairwise_iff_getElem.1 hp r' r l1 l2 (by omega))
                  generalize u.2 = l at *
                  obtain ⟨P, hP⟩ : ∃ P, P = cSum (PLo cw q ++ (us.take r).map (·.2)) := ⟨_, rfl⟩
                  rw [← hP] at hbd1 hbd2 HSN ⊢
                  have c0 := hcc 0 _ rfl
                  have c1 := hcc 1 _ rfl
                  have c2 := hcc 2 _ rfl
                  have c3 := hcc 3 _ rfl
                  have c4 := hcc 4 _ rfl
                  have c5 := hcc 5 _ rfl
                  have c6 := hcc 6 _ rfl
                  have c7 := hcc 7 _ rfl
                  have c8 := hcc 8 _ rfl
                  simp only [Nat.add_zero] at c0
                  obtain ⟨W3, hW3⟩ : ∃ W3, W3 = wr.alloc (.cells #[.int .i64 l.k, .string l.n, .int .i64 l.c, .int .i64 (wh l.sum), .int .u64 (wl l.sum), .int .i64 (wh l.wt), .int .u64 (wl l.wt), .slice SA l.smp.length SC, .slice MA l.mem.length MC] TTal) := ⟨_, rfl⟩
                  have hUW : Upd [] wr W3 := by rw [hW3]; exact (Upd.refl [] wr).alloc _
                  have HT3 := Lib.hid (show HB W3 wr.heap.size TTal (talC l SA SC MA MC) from by rw [hW3]; exact HB.new wr TTal (talC l SA SC MA MC))
                  have HWB8 := Lib.hid (HWB7.out.upd0 hUW)
                  have HUW4 := Lib.hid hUW
                  have HU11 := Lib.hid (HU10.out.then hUW)
                  clear hc hcc e2 hu hbn htk hbd hsn hP hUW
                  go_upto_region 27 with fail
                  rw [← hW3]
                  clear hW3 c0 c1 c2 c3 c4 c5 c6 c7 c8
                  have d6 : decide (l.c < 1) = false := decide_eq_false (by omega)
                  have t2 := fun z : Wd [] W3 => z.h.cell (HT3.out.cell (j := 2) rfl) (by simp)
                  rcases Nat.eq_zero_or_pos r with hr0 | hr0
                  · have d7 : decide (0 < r) = false := decide_eq_false (by omega)
                    clear hr0
                    refine mix_start (n := 18) 18 (fun w' => ∃ p : Wd [] W3, w' = p.v) (by kernel_rfl) (by kernel_rfl) ?_
                    refine mix_quiet [true, true, true, true, true, true, true, true, true, true, true, true, true, true] 4 rfl (by kernel_rfl) (by kernel_rfl) (by kernel_rfl) (by kernel_rfl) ⟨⟨_, (Upd.refl [] W3).drew⟩, rfl⟩ ?_
                    simp only [maskL]
                    repeat (go_big_quiet_step (fail))
                    refine wpQuiet_nil ?_
                    clear t2
                    refine mix_one 14 (by kernel_rfl) (by kernel_rfl) rfl ?_
                    intro K QF hK
                    go_wp2_with fail
                    refine hK _ _ ⟨⟨_, ((Upd.refl [] W3).drew)⟩, rfl⟩ ?_
                    clear hK K QF
                    refine mix_quiet [false, false, false, false, false, false, false, false, false, false, false, false, false, false, false, true, true, true] 0 rfl (by kernel_rfl) (by kernel_rfl) (by kernel_rfl) (by kernel_rfl) ⟨⟨_, ((Upd.refl [] W3).drew)⟩, rfl⟩ ?_
                    simp only [maskL]
                    repeat (go_big_quiet_step (fail))
                    refine wpQuiet_nil ?_
                    refine mix_end (by kernel_rfl) ?_
                    have HT4 := Lib.hid (HT3.out.upd0 ((Upd.refl [] W3).drew))
                    have k2 := HT4.out.cell (j := 2) rfl
                    go_wp2_with fail
                    go_roundw
                    case rel => exact ⟨(r + 1), by omega, by go_num, by rw [HSN.out, Int.add_assoc], HWB8.out.upd0 ((Upd.refl [] W3).drew), HU11.out.then ((Upd.refl [] W3).drew)⟩
                    case measure => simp [intOf]; omega
                  · obtain ⟨r', hr'⟩ : ∃ r', r = r' + 1 := ⟨r - 1, by omega⟩
                    obtain ⟨u', SA', SC', MA', MC', hcp, hlt⟩ := HRE.out r' hr'
                    generalize u'.2 = l' at hcp hlt
                    subst hr'
                    have HLT := Lib.hid (show ltT (tcOf l' SA' SC' MA' MC') (tcOf l SA SC MA MC) = true from hlt)
                    have hct := HT3.out
                    have p0 := fun z : Wd [] W3 => z.h.cell (HUW4.out.cell (hcp 0 _ rfl) (by simp)) (by simp)
                    have p1 := fun z : Wd [] W3 => z.h.cell (HUW4.out.cell (hcp 1 _ rfl) (by simp)) (by simp)
                    have p2 := fun z : Wd [] W3 => z.h.cell (HUW4.out.cell (hcp 2 _ rfl) (by simp)) (by simp)
                    have p3 := fun z : Wd [] W3 => z.h.cell (HUW4.out.cell (hcp 3 _ rfl) (by simp)) (by simp)
                    have p4 := fun z : Wd [] W3 => z.h.cell (HUW4.out.cell (hcp 4 _ rfl) (by simp)) (by simp)
                    have p5 := fun z : Wd [] W3 => z.h.cell (HUW4.out.cell (hcp 5 _ rfl) (by simp)) (by simp)
                    have p6 := fun z : Wd [] W3 => z.h.cell (HUW4.out.cell (hcp 6 _ rfl) (by simp)) (by simp)
                    have p7 := fun z : Wd [] W3 => z.h.cell (HUW4.out.cell (hcp 7 _ rfl) (by simp)) (by simp)
                    have p8 := fun z : Wd [] W3 => z.h.cell (HUW4.out.cell (hcp 8 _ rfl) (by simp)) (by simp)
                    simp only [Nat.add_zero] at p0
                    have t0 := fun z : Wd [] W3 => z.h.cell (HT3.out.cell (j := 0) rfl) (by simp)
                    have t1 := fun z : Wd [] W3 => z.h.cell (HT3.out.cell (j := 1) rfl) (by simp)
                    have t3 := fun z : Wd [] W3 => z.h.cell (HT3.out.cell (j := 3) rfl) (by simp)
                    have t4 := fun z : Wd [] W3 => z.h.cell (HT3.out.cell (j := 4) rfl) (by simp)
                    have t5 := fun z : Wd [] W3 => z.h.cell (HT3.out.cell (j := 5) rfl) (by simp)
                    have t6 := fun z : Wd [] W3 => z.h.cell (HT3.out.cell (j := 6) rfl) (by simp)
                    have t7 := fun z : Wd [] W3 => z.h.cell (HT3.out.cell (j := 7) rfl) (by simp)
                    have t8 := fun z : Wd [] W3 => z.h.cell (HT3.out.cell (j := 8) rfl) (by simp)
                    have b1 := fun z : Wd [] W3 => z.h.cell (HWB8.out.cell (j := 1) rfl) (by simp)
                    have d7 : decide (0 < r' + 1) = true := decide_eq_true (by omega)
                    clear hcp hlt hct hr0
                    refine mix_start (n := 18) 18 (fun w' => ∃ p : Wd [] W3, w' = p.v) (by kernel_rfl) (by kernel_rfl) ?_
                    refine mix_quiet [true, true, true, true, true, true, true, true, true, true, true, true, true, true] 4 rfl (by kernel_rfl) (by kernel_rfl) (by kernel_rfl) (by kernel_rfl) ⟨⟨_, (Upd.refl [] W3).drew⟩, rfl⟩ ?_
                    simp only [maskL]
                    repeat (go_big_quiet_step (fail))
                    refine wpQuiet_nil ?_
                    clear t0 t1 t2 t3 t4 t5 t6 t7 t8 p0 p1 p2 p3 p4 p5 p6 p7 p8 b1
                    refine mix_one 14 (by kernel_rfl) (by kernel_rfl) rfl ?_
                    intro K QF hK
                    go_wp2_with fail
                    refine (below_calls (tcOf l' SA' SC' MA' MC') (tcOf l SA SC MA MC) _).mono ?_
                    rintro y w8 ⟨rfl, hg8⟩
                    rw [HLT.out]
                    have HU12 := Lib.hid (show Upd [] W3 w8 from (Upd.refl [] W3).drew.then hg8.upd)
                    clear hg8
                    go_wp2_with fail
                    refine hK _ _ ⟨⟨_, HU12.out⟩, rfl⟩ ?_
                    clear hK K QF
                    refine mix_quiet [false, false, false, false, false, false, false, false, false, false, false, false, false, false, false, true, true, true] 0 rfl (by kernel_rfl) (by kernel_rfl) (by kernel_rfl) (by kernel_rfl) ⟨⟨_, HU12.out⟩, rfl⟩ ?_
                    simp only [maskL]
                    repeat (go_big_quiet_step (fail))
                    refine wpQuiet_nil ?_
                    refine mix_end (by kernel_rfl) ?_
                    have HT4 := Lib.hid (HT3.out.upd0 HU12.out)
                    have k2 := HT4.out.cell (j := 2) rfl
                    go_wp2_with fail
                    go_roundw
                    case rel => exact ⟨(r' + 1 + 1), by omega, by go_num, by rw [HSN.out, Int.add_assoc], HWB8.out.upd0 HU12.out, HU11.out.then HU12.out⟩
                    case measure => simp [intOf]; omega
                · obtain rfl : r = us.length := by omega
                  rw [List.take_length, ← HPL.out]
                  go_wp2_with fail
                  go_roundw
                  case rel => exact ⟨q + 1, by omega, by go_num, rfl, by have h := own_upd HOW.out HU10.out (by simp); rw [show last.length + (q + 1) = L.length + 1 by have := HLN.out; omega, HTK.out, ← List.append_assoc, ← HLE.out, List.map_append]; exact h, HLO2.out, HU9.out.then0 HU10.out⟩
                  case measure => simp [intOf]; omega
          · obtain rfl : q = cw.length := by omega
            go_wp2_with fail
            go_roundw
            case rel =>
              have hl1 := HL.out
              rw [List.take_length] at hl1
              have e1 : PLo cw cw.length = (cw.map WCL.pl).flatMap (·.2) := by unfold PLo; rw [List.take_length]
              refine ⟨k + 1, O2, G', last ++ cw.map WCL.id, ev, cn + cSum (PLo cw cw.length), by go_num, rfl, rfl, HS4.out.upd HU5.out (fun b hb => HO4.out b (by simpa using hb)), by rw [List.length_append, List.length_map]; exact hl1, fun g hg => ?_, by rw [e1]; exact HI2.out, HU4.out.trans HU5.out (fun _ h => h) (fun g hg => .inr (HLW.out g (by simpa using hg)))⟩
              rcases HLO.out with h | ⟨g2, h, h2⟩
              · rw [h] at hg
                exact HO4.out g hg
              · rw [h] at hg
                injection hg with hg
                subst hg
                exact fun ho => by have := (HS4.out.lo _ ho).2; omega
            case measure => simp [intOf]; omega
    · obtain rfl : k = ops.length + 1 := by omega
      have hE := HIN.out.fin rfl
      have hev : cn = ev := by have := HIN.out.eq; rw [hE] at this; simpa using this
      subst hev
      have HOP := Lib.hid (shOpen_calls w.heap.size a (ops.length + 1) O' G wr HS.out (by omega))
      have HE := Lib.hid hE
      clear hE
      go_wp2_with fail
      refine HOP.out.mono ?_
      rintro x w5 ⟨vi, ids, rfl, hids, hrow, hU5⟩
      have hnil : ids = [] := by
        rw [List.eq_nil_iff_forall_not_mem]
        intro i hi
        obtain ⟨p, hp, _⟩ := (hids.mem i).1 hi
        rw [HE.out] at hp
        cases hp
      subst hnil
      obtain ⟨Ai, ci, rfl, _, _, _⟩ := own_shape hrow
      have HF5 := Lib.hid (HU.out.then hU5)
      clear hids hrow hU5
      go_wp2
      go_ret
      exact ⟨rfl, HF5.out⟩
theorem aggOnce_calls (c0 : List Value) (x0 : GT.den (.slice gOp)) (W : World) (h0 : Rd W (· < W.heap.size) (.slice gOp) c0 x0) (hk : GT.bulk (.slice gOp) x0 ≤ 1048576) (hM : MaxL W) :
    Calls Tryz.prog 5 #[GT.val (.slice gOp) c0] W fun e w' => e = .returned (.bool true) ∧ Upd [] W w' := by
  obtain ⟨v, ops, rfl, hR, hok⟩ := rd_ops h0 hk
  exact once_calls ops v _ W hR (fun b h => h) hok hM
end Go.Proofs.YthbjpoiolmlpmaaGreatDoor
