/- AggShards: dealt and joined. -/
import Derived.Test.YthbjpoiolmlpmaaGreatDoorAgShard
import Derived.Test.YthbjpoiolmlpmaaGreatDoorMixS
set_option linter.unusedVariables false
set_option linter.unusedSimpArgs false
namespace Go.Proofs.YthbjpoiolmlpmaaGreatDoor
open Go.RowKit
theorem rowC_lenS (p : KE) : (rowC p).length = 9 := rfl
abbrev TRowS : TypeId := 32
abbrev TWs : TypeId := 23
theorem infoRowS : (Tryz.prog.info? TRowS).map (fun i => (i.zero, i.size, i.bytes)) = some (some (.agg #[.int .i64 0, .string .empty, .int .i64 0, .int .i64 0, .bool false, .string .empty, .int .i64 0, .bool false, .int .i64 0]), 9, 88) := by kernel_rfl
theorem infoTs : (Tryz.prog.info? 48).map (fun i => (i.zero, i.size, i.bytes)) = some (some (.slice none 0 0), 1, 24) := by kernel_rfl
theorem RowK.ownS {α : Type} {w : World} {F : Nat → Prop} {enc : α → List Value} {k : Nat} {v : Value} {xs : List α} (h : RowK w F enc k v xs) : RowK w (fun b => v.ownBlock = some b) enc k v xs := by
  obtain ⟨A, c, rfl, h2, h3, h4, h5⟩ := h
  refine ⟨A, c, rfl, h2, h3, h4, fun i x hx => ?_⟩
  obtain ⟨b, o, rfl, _, hc⟩ := h5 i x hx
  exact ⟨b, o, rfl, rfl, hc⟩
theorem okRows_filter {rows : List KE} (h : okRows rows) (f : KE → Bool) : okRows (rows.filter f) :=
  ⟨Nat.le_trans (List.length_filter_le _ _) h.1, fun p hp => h.2 p (List.mem_filter.1 hp).1⟩
/-- A shard's part: what it told, in memory. -/
structure PartAt (n : Nat) (rows : List KE) (i : Nat) (w : World) (B : Nat) (v : Value) (cw : List WCL) : Prop where
  ws : WinsAt w B B v cw
  pt : Part (dlt n) rows i (cw.map WCL.pl)
theorem PartAt.upd0 {n i B : Nat} {rows : List KE} {w w' : World} {v : Value} {cw : List WCL} (h : PartAt n rows i w B v cw) (hU : Upd [] w w') : PartAt n rows i w' B v cw := ⟨h.ws.upd hU (by simp) (by simp), h.pt⟩
theorem PartAt.set {n i B b : Nat} {rows : List KE} {w w' : World} {v : Value} {cw : List WCL} (h : PartAt n rows i w B v cw) (hU : Upd [b] w w') (hb : b < B) : PartAt n rows i w' B v cw :=
  ⟨h.ws.upd hU (fun g hg hm => by simp at hm; have := (h.ws.row.lt g hg).1; omega) (fun g hg hm => by
    simp at hm
    obtain ⟨d, hd, hg⟩ := List.mem_flatMap.1 hg
    have := ((h.ws.wins d hd).lt (Nat.le_refl _) g hg).1
    omega), h.pt⟩
def cellsP (P : Nat → Value × Nat × List WCL) (k n : Nat) : List Value := (List.range n).map fun j => if j < k then (P j).1 else .slice none 0 0
theorem cellsP_len (P : Nat → Value × Nat × List WCL) (k n : Nat) : (cellsP P k n).length = n := by simp [cellsP]
theorem cellsP_at (P : Nat → Value × Nat × List WCL) (k n : Nat) {j : Nat} (hj : j < n) : (cellsP P k n)[j]? = some (if j < k then (P j).1 else .slice none 0 0) := by
  simp [cellsP, hj]
theorem cellsP_zero (P : Nat → Value × Nat × List WCL) (n : Nat) : cellsP P 0 n = List.replicate n (.slice none 0 0) := by
  apply List.ext_getElem?
  intro j
  by_cases hj : j < n
  · rw [cellsP_at P 0 n hj, List.getElem?_replicate_of_lt hj, if_neg (by omega)]
  · rw [List.getElem?_eq_none (by rw [cellsP_len]; omega), List.getElem?_eq_none (by simp; omega)]
theorem cellsP_succ (P : Nat → Value × Nat × List WCL) (k n : Nat) (x : Value × Nat × List WCL) (hk : k < n) : (cellsP P k n).set k x.1 = cellsP (fun j => if j = k then x else P j) (k + 1) n := by
  apply List.ext_getElem?
  intro j
  by_cases hj : j < n
  · rw [cellsP_at _ _ _ hj]
    by_cases e : j = k
    · subst e
      rw [List.getElem?_set_self (by rw [cellsP_len]; exact hj), if_pos (by omega), if_pos rfl]
    · rw [List.getElem?_set_ne (fun h => e h.symm), cellsP_at _ _ _ hj]
      by_cases h : j < k
      · rw [if_pos h, if_pos (by omega), if_neg e]
      · rw [if_neg h, if_neg (by omega)]
  · rw [List.getElem?_eq_none (by rw [List.length_set, cellsP_len]; omega), List.getElem?_eq_none (by rw [cellsP_len]; omega)]
theorem sh_snoc (d : ByteArray → Nat) (i : Nat) (rows : List KE) (p : KE) : (rows ++ [p]).filter (ofSh d i) = if d p.2.name = i then rows.filter (ofSh d i) ++ [p] else rows.filter (ofSh d i) := by
  by_cases h : d p.2.name = i <;> simp [List.filter_append, ofSh, h]
set_option maxHeartbeats 8000000 in
set_option maxRecDepth 200000 in
theorem shards_calls (rows : List KE) (v : Value) (nI : Int) (F : Nat → Prop) (w : World) (hR : RowK w F rowC 9 v rows) (hF : ∀ b, F b → b < w.heap.size) (hok : okRows rows) (hM : MaxL w) :
    Calls Tryz.prog 11 #[v, .int .i64 nI] w fun e w' => e = .returned (.bool true) ∧ Upd [] w w' := by
  have HR := Lib.hid hR
  have HF := Lib.hid hF
  have HOK := Lib.hid hok
  have hrl := hok.1
  have HTO := Lib.hid (told_calls rows v F w hR hF hok hM)
  obtain ⟨A, c, rfl, hlc, hcm, _⟩ := hR.shape
  clear hR hF hok hlc hcm
  go_enter Tryz.func11, Tryz.ntmps11
  go_wp2_with fail
  refine HTO.out.mono ?_
  rintro e w1 ⟨va, cw, A1, rfl, hC, hW, hU⟩
  obtain ⟨Ax, cx, rfl, hcw, hcx, _⟩ := own_shape hW.row
  have hcw : cw.length ≤ 9223372036854775807 := by unfold maxLen at hcx; omega
  have HC := Lib.hid hC
  have HW := Lib.hid hW
  have HU := Lib.hid hU
  have HAW := Lib.hid (awake_calls w1 (hM.upd0 hU) (by have := hU.size; have := hM.pos; omega))
  clear hC hW hU hcx HTO
  go_wp2_with fail
  refine HAW.out.mono ?_
  rintro e w2 ⟨rfl, hU2⟩
  have HW2 := Lib.hid (HW.out.upd hU2 (by simp) (by simp))
  have HU2 := Lib.hid (HU.out.then hU2)
  clear hU2 HAW HW HU
  go_upto_region 5 with fail
  obtain ⟨n, hn, hn1, hn4⟩ : ∃ n : Nat, wrap64 (wrap64 ((IntKind.u64.wrap nI).tmod 4) + 1) = n ∧ 1 ≤ n ∧ n ≤ 4 := by
    have h0 : 0 ≤ IntKind.u64.wrap nI := by rw [IntKind.wrap_u64]; omega
    have e1 : (IntKind.u64.wrap nI).tmod 4 = (IntKind.u64.wrap nI) % 4 := Int.tmod_eq_emod_of_nonneg h0
    have h3 := Int.emod_nonneg (IntKind.u64.wrap nI) (b := 4) (by omega)
    have h4 := Int.emod_lt_of_pos (IntKind.u64.wrap nI) (b := 4) (by omega)
    rw [e1]
    generalize (IntKind.u64.wrap nI) % 4 = m at *
    have h5 : wrap64 (wrap64 m + 1) = m + 1 := by unfold wrap64; omega
    rw [h5]
    exact ⟨(m + 1).toNat, by omega, by omega, by omega⟩
  rw [hn]
  generalize wrap64 ((IntKind.u64.wrap nI).tmod 4) = t33 at *
  generalize (IntKind.u64.wrap nI).tmod 4 = t32 at *
  generalize IntKind.u64.wrap nI = t31 at *
  clear hn
  have hmk := mk_wss n (by omega)
  have HUA := Lib.hid (HU2.out.alloc (.cells (List.replicate n (Value.slice none 0 0)).toArray TWs))
  have HPB := Lib.hid (HB.new w2 TWs (List.replicate n (.slice none 0 0)))
  have HPW := Lib.hid HU2.out.size
  go_wp2_with fail
  clear hmk
  go_loopw [8] (fun i wr => ∃ (k : Nat) (P : Nat → Value × Nat × List WCL), k ≤ n ∧ i = .int .i64 k ∧ HB wr w2.heap.size TWs (cellsP P k n) ∧ (∀ j, j < k → PartAt n rows j wr (P j).2.1 (P j).1 (P j).2.2 ∧ w2.heap.size < (P j).2.1) ∧ Upd [] w2 wr) (fun i _ => n - (intOf i).toNat)
  case atStart => exact ⟨0, fun _ => (.slice none 0 0, 0, []), Nat.zero_le _, rfl, by rw [cellsP_zero]; exact HPB.out, fun j hj => by omega, by repeat (first | exact Upd.refl _ _ | assumption | apply Upd.drewN | apply Upd.drew | apply Upd.alloc)⟩
  case round =>
    obtain ⟨k, P, hk, rfl, hpb, hpt, hU⟩ := hrel
    have HPK := Lib.hid hpb
    have HPT := Lib.hid hpt
    have HUK := Lib.hid hU
    have HUW := Lib.hid (HU2.out.then hU)
    clear hpb hpt hU
    by_cases hlt : k < n
    · go_wp2_with fail
      generalize wr = wo at *
      go_loopw [9, 10] (fun m j wr => ∃ r : Nat, r ≤ rows.length ∧ j = .int .i64 r ∧ wr.ownsRow wo.heap.size TRowS 9 m ((rows.take r).filter (ofSh (dlt n) k)).length (((rows.take r).filter (ofSh (dlt n) k)).flatMap rowC) ∧ Upd [] wo wr) (fun m j _ => rows.length - (intOf j).toNat)
      case atStart => exact ⟨0, Nat.zero_le _, rfl, ⟨rfl, .inl ⟨rfl, rfl⟩⟩, by repeat (first | exact Upd.refl _ _ | assumption | apply Upd.drewN | apply Upd.drew | apply Upd.alloc)⟩
      case round =>
        obtain ⟨r, hr, rfl, hmi, hU⟩ := hrel
        obtain ⟨Am, cm, rfl, hcm1, hcm2, _⟩ := own_shape hmi
        have HMI := Lib.hid hmi
        have HU3 := Lib.hid hU
        have HWR := Lib.hid (HUW.out.then hU)
        clear hmi hU hcm1 hcm2
        by_cases hlt2 : r < rows.length
        · obtain ⟨p, hp⟩ : ∃ p, rows[r]? = some p := ⟨rows[r], List.getElem?_eq_getElem hlt2⟩
          obtain ⟨b, o, rfl, hb, hf⟩ := HR.out.at_ hp
          have hp2 := HOK.out.2 p (List.mem_of_getElem? hp)
          have htk : rows.take (r + 1) = rows.take r ++ [p] := by rw [List.take_add_one, hp]; rfl
          have hns := sh_snoc (dlt n) k (rows.take r) p
          rw [← htk] at hns
          obtain ⟨id, e⟩ := p
          have hc := fun j u hj => HWR.out.cell (hf j u hj) (by simp)
          have HDC := Lib.hid (dealt_calls e.name (Nat.le_trans hp2.1 (by unfold maxLen; decide)) n hn1 hn4 wr)
          have HML := Lib.hid (show ((rows.take r).filter (ofSh (dlt n) k)).length ≤ 1048576 from by
            have h1 := List.length_filter_le (ofSh (dlt n) k) (rows.take r)
            rw [List.length_take] at h1
            omega)
          have x0 := hc 0 _ rfl
          have x1 := hc 1 _ rfl
          have x2 := hc 2 _ rfl
          have x3 := hc 3 _ rfl
          have x4 := hc 4 _ rfl
          have x5 := hc 5 _ rfl
          have x6 := hc 6 _ rfl
          have x7 := hc 7 _ rfl
          have x8 := hc 8 _ rfl
          simp only [Nat.add_zero] at x0
          have HNS := Lib.hid hns
          dsimp only at hns
          clear hf hp hp2 hb htk hc
          go_wp2_with fail
          refine HDC.out.mono ?_
          rintro y w5 ⟨rfl, rfl⟩
          by_cases hd : dlt n e.name = k
          · have d1 : (((dlt n e.name : Nat) : Int) == (k : Int)) = true := by rw [hd]; simp
            rw [if_pos hd] at hns
            have HN := Lib.hid hns
            have hal := (Upd.refl [] w5).alloc (.cells #[.int .i64 id, .string e.name, .int .i64 e.kind, .int .i64 e.value, .bool e.delta, .string e.member, .int .i64 e.rate, .bool e.timed, .int .i64 e.time] TRowS)
            have HRO := Lib.hid (own_upd HMI.out hal (by simp))
            have HU4 := Lib.hid (HU3.out.then hal)
            have HNB := Lib.hid (HB.new w5 TRowS [.int .i64 id, .string e.name, .int .i64 e.kind, .int .i64 e.value, .bool e.delta, .string e.member, .int .i64 e.rate, .bool e.timed, .int .i64 e.time])
            have HSB := Lib.hid HU4.out.size
            clear hns hal hd HNS
            go_wp2_with (at_builtin; go_must (refine wp_append1 wo.heap.size 22 TRowS _ 9 88 (.slice Am ((rows.take r).filter (ofSh (dlt n) k)).length cm) ((rows.take r).filter (ofSh (dlt n) k)).length (((rows.take r).filter (ofSh (dlt n) k)).flatMap rowC) [.int .i64 id, .string e.name, .int .i64 e.kind, .int .i64 e.value, .bool e.delta, .string e.member, .int .i64 e.rate, .bool e.timed, .int .i64 e.time] _ rfl rfl (by kernel_rfl) infoRowS rfl (by decide) (by decide) rfl rfl rfl (by simp [Value.oneCell']) HRO.out HNB.out HSB.out (by have := HML.out; omega) ?_))
            intro v1 w4 hown4 hU5 hat4
            have HOW := Lib.hid hown4
            have HU5 := Lib.hid hU5
            clear hown4 hU5 hat4 x0 x1 x2 x3 x4 x5 x6 x7 x8
            go_wp2_with fail
            go_roundw
            case rel => exact ⟨r + 1, by omega, by go_num, by rw [HN.out, List.length_append, List.flatMap_append]; exact HOW.out, HU4.out.trans HU5.out (fun _ h => h) (fun g hg => .inr (HMI.out.lt g (by simpa using hg)).1)⟩
            case measure => simp [intOf]; omega
          · have d1 : (((dlt n e.name : Nat) : Int) == (k : Int)) = false := by simp; omega
            rw [if_neg hd] at hns
            have HN := Lib.hid hns
            clear hns hd HNS
            go_wp2_with fail
            go_roundw
            case rel => exact ⟨r + 1, by omega, by go_num, by rw [HN.out]; exact HMI.out, HU3.out⟩
            case measure => simp [intOf]; omega
        · obtain rfl : r = rows.length := by omega
          rw [List.take_length] at HMI
          simp only [List.take_length]
          have hrk := (own_row rowC_lenS (by decide) HMI.out).2.ownS
          have HT5 := Lib.hid (told_calls _ _ _ wr hrk (fun b hb => own_lt HMI.out b hb) (okRows_filter HOK.out _) (hM.upd0 HWR.out))
          clear hrk
          go_wp2_with fail
          refine HT5.out.mono ?_
          rintro y w5 ⟨vb, dw, A5, rfl, hC5, hW5, hU5⟩
          obtain ⟨Av, cv, rfl, _, _, _⟩ := own_shape hW5.row
          have hpb := (HPK.out.upd0 HU3.out).upd0 hU5
          have ck := hpb.cell (cellsP_at P k n hlt)
          rw [if_neg (by omega)] at ck
          have fk := hpb.free k
          have HPB5 := Lib.hid (show HB (w5.setCell ⟨w2.heap.size, k, none⟩ (.slice Av dw.length cv)) w2.heap.size TWs (cellsP (fun j => if j = k then (.slice Av dw.length cv, wr.heap.size, dw) else P j) (k + 1) n) from by rw [← cellsP_succ P k n (.slice Av dw.length cv, wr.heap.size, dw) hlt]; exact hpb.set k (.slice Av dw.length cv))
          have hsz := HUK.out.size
          have hpw : w2.heap.size < wr.heap.size := by
            have h1 := HU3.out.size
            have h2 := HPK.out.lt
            omega
          have hUS : Upd [w2.heap.size] w5 (w5.setCell ⟨w2.heap.size, k, none⟩ (.slice Av dw.length cv)) := (Upd.refl [w2.heap.size] w5).setCell (.inl (by simp)) _
          have HPT5 := Lib.hid (show ∀ j, j < k + 1 → PartAt n rows j (w5.setCell ⟨w2.heap.size, k, none⟩ (.slice Av dw.length cv)) ((fun j => if j = k then (.slice Av dw.length cv, wr.heap.size, dw) else P j) j).2.1 ((fun j => if j = k then (.slice Av dw.length cv, wr.heap.size, dw) else P j) j).1 ((fun j => if j = k then (.slice Av dw.length cv, wr.heap.size, dw) else P j) j).2.2 ∧ w2.heap.size < ((fun j => if j = k then (.slice Av dw.length cv, wr.heap.size, dw) else P j) j).2.1 from fun j hj => by
            by_cases e : j = k
            · subst e
              dsimp only
              rw [if_pos rfl]
              exact ⟨PartAt.set ⟨hW5, ⟨A5, hC5⟩⟩ hUS hpw, hpw⟩
            · dsimp only
              rw [if_neg e]
              obtain ⟨h1, h2⟩ := HPT.out j (by omega)
              exact ⟨((h1.upd0 HU3.out).upd0 hU5).set hUS h2, h2⟩)
          have HUS := Lib.hid (show Upd [] w2 (w5.setCell ⟨w2.heap.size, k, none⟩ (.slice Av dw.length cv)) from ((HUK.out.then HU3.out).then hU5).setCell (p := ⟨w2.heap.size, k, none⟩) (.inr (Nat.le_refl _)) _)
          clear hpb hsz hpw hUS hC5 hW5 hU5
          go_wp2_with fail
          go_roundw
          case rel => exact ⟨k + 1, _, by omega, by go_num, HPB5.out, HPT5.out, HUS.out⟩
          case measure => simp [intOf]; omega
    · obtain rfl : k = n := by omega
      have HWZ := Lib.hid (HW2.out.upd HUK.out (by simp) (by simp))
      have HPC := Lib.hid (show ∀ j, j < k → wr.cell? ⟨w2.heap.size, j, none⟩ = some (P j).1 from fun j hj => by
        have := HPK.out.cell (cellsP_at P k k hj)
        rwa [if_pos hj] at this)
      clear HPK
      go_wp2_with fail
      generalize w2.heap.size = pb at *
      generalize wr = wz at *
      go_loopw [11] (fun i wr => ∃ q : Nat, q ≤ cw.length ∧ i = .int .i64 q ∧ Upd [] wz wr) (fun i _ => cw.length - (intOf i).toNat)
      case atStart => exact ⟨0, Nat.zero_le _, rfl, by repeat (first | exact Upd.refl _ _ | assumption | apply Upd.drewN | apply Upd.drew | apply Upd.alloc)⟩
      case round =>
        obtain ⟨q, hq, rfl, hU⟩ := hrel
        have HUQ := Lib.hid hU
        clear hU
        by_cases hlt3 : q < cw.length
        · obtain ⟨c, hc⟩ : ∃ c, cw[q]? = some c := ⟨cw[q], List.getElem?_eq_getElem hlt3⟩
          have HCQ := Lib.hid hc
          have HMEM := Lib.hid (show (c.id, c.us.map (·.2)) ∈ cw.map WCL.pl from List.mem_map_of_mem (List.mem_of_getElem? hc))
          obtain ⟨id, hid⟩ : ∃ id, id = c.id := ⟨_, rfl⟩
          have HID := Lib.hid hid
          rw [← hid] at HMEM
          clear hc hid
          go_wp2_with fail
          generalize wr = wo at *
          go_loopw [12, 13] (fun l j wr => ∃ r : Nat, r ≤ k ∧ j = .int .i64 r ∧ wr.ownsRow wo.heap.size 48 1 l (LWs P id r).length ((LWs P id r).map WCL.tv) ∧ Upd [] wo wr) (fun l j _ => k - (intOf j).toNat)
          case atStart => exact ⟨0, Nat.zero_le _, rfl, ⟨rfl, .inl ⟨rfl, rfl⟩⟩, by repeat (first | exact Upd.refl _ _ | assumption | apply Upd.drewN | apply Upd.drew | apply Upd.alloc)⟩
          case round =>
            obtain ⟨r, hr, rfl, hl, hU⟩ := hrel
            have HL := Lib.hid hl
            have HUR := Lib.hid hU
            clear hl hU
            by_cases hlt4 : r < k
            · obtain ⟨hp1, _⟩ := HPT.out r hlt4
              have HPR := Lib.hid hp1
              have hpc := HPC.out r hlt4
              have HLS := Lib.hid (lws_succ P id r)
              have hL4 := lws_len (P := P) (id := id) r (fun j hj => part_nodup (HPT.out j (by omega)).1.pt)
              have HDN := Lib.hid (part_nodup hp1.pt)
              have hsh := own_shape hp1.ws.row
              generalize (P r).2.2 = dw at *
              generalize (P r).2.1 = Br at *
              generalize (P r).1 = vr at *
              obtain ⟨Ar, cr, rfl, hd1, hd2, _⟩ := hsh
              have hdw : dw.length ≤ 9223372036854775807 := by unfold maxLen at hd2; omega
              have HPCR := Lib.hid hpc
              obtain ⟨L0, hL0⟩ : ∃ L0, L0 = LWs P id r := ⟨_, rfl⟩
              rw [← hL0] at HL HLS hL4
              have HL4 := Lib.hid hL4
              clear hp1 hpc hL0 hd1 hd2 hL4
              go_wp2_with fail
              generalize wr = wq at *
              go_loopw [12, 14] (fun l j wr => ∃ s : Nat, s ≤ dw.length ∧ j = .int .i64 s ∧ wr.ownsRow wo.heap.size 48 1 l (L0 ++ ent id (dw.take s)).length ((L0 ++ ent id (dw.take s)).map WCL.tv) ∧ Upd [] wo wr) (fun l j _ => dw.length - (intOf j).toNat)
              case atStart => exact ⟨0, Nat.zero_le _, rfl, by simpa [ent] using own_upd HL.out (S := []) (by repeat (first | exact Upd.refl _ _ | assumption | apply Upd.drewN | apply Upd.drew | apply Upd.alloc)) (by simp), HUR.out.then (by repeat (first | exact Upd.refl _ _ | assumption | apply Upd.drewN | apply Upd.drew | apply Upd.alloc))⟩
              case round =>
                obtain ⟨s, hs, rfl, hl, hU⟩ := hrel
                obtain ⟨Al, cl, rfl, hl1, hl2, _⟩ := own_shape hl
                have HLL := Lib.hid hl
                have HUS := Lib.hid hU
                have HUZ := Lib.hid (HUQ.out.then hU)
                clear hl hU hl1 hl2
                have pc := HUZ.out.cell HPCR.out (by simp)
                by_cases hlt5 : s < dw.length
                · obtain ⟨d, hd⟩ : ∃ d, dw[s]? = some d := ⟨dw[s], List.getElem?_eq_getElem hlt5⟩
                  obtain ⟨b, m, e, _, ⟨x0, x1⟩, _, _, A', m', eT⟩ := (HPR.out.ws.upd HUZ.out (by simp) (by simp)).at_ hd
                  injection e with e1 e2 e3
                  subst e1 e3
                  obtain ⟨b2, m2, e, _, ⟨y0, y1⟩, _⟩ := (HWZ.out.upd HUZ.out (by simp) (by simp)).at_ HCQ.out
                  injection e with e4 e5 e6
                  subst e4 e6
                  rw [← HID.out] at y0
                  have htk := ent_take id hd
                  have htv := eT
                  rw [eT] at x1
                  have HTV := Lib.hid htv
                  have HLB := Lib.hid (show (L0 ++ ent id (dw.take s)).length ≤ 4194304 from by
                    have h1 := ent_one (id := id) (cw := dw.take s) (by rw [List.map_take]; exact HDN.out.sublist (List.take_sublist _ _))
                    have h2 := HL4.out
                    rw [List.length_append]
                    omega)
                  have pcz := fun z : Wd [] wr => z.h.cell (HUZ.out.cell HPCR.out (by simp)) (by simp)
                  have HX0 := Lib.hid x0
                  have HY0 := Lib.hid y0
                  have x0z := fun z : Wd [] wr => z.h.cell HX0.out (by simp)
                  have y0z := fun z : Wd [] wr => z.h.cell HY0.out (by simp)
                  by_cases hi : d.id = id
                  · have d1 : (d.id == id) = true := by simpa using hi
                    rw [if_pos hi] at htk
                    have HTK := Lib.hid htk
                    clear hd e2 e5 eT htv htk hi x0 y0 y1
                    go_wp2_with fail
                    refine mix_start (n := 14) 14 (fun w' => ∃ p : Wd [] wr, w' = p.v) (by kernel_rfl) (by kernel_rfl) ?_
                    refine mix_quiet [true, true, true, true, true, true, true, true, true, true, true, true, true, true] 0 rfl (by kernel_rfl) (by kernel_rfl) (by kernel_rfl) (by kernel_rfl) ⟨⟨_, (Upd.refl [] wr).drew⟩, rfl⟩ ?_
                    simp only [maskL]
                    repeat (go_big_quiet_step (fail))
                    refine wpQuiet_nil ?_
                    refine mix_end (by kernel_rfl) ?_
                    clear pcz x0z y0z
                    have hal := ((Upd.refl [] wr).drew).alloc (.cells #[.slice A' d.us.length m'] 48)
                    have HRO := Lib.hid (own_upd HLL.out hal (by simp))
                    have HNB := Lib.hid (HB.new wr.drew 48 [.slice A' d.us.length m'])
                    have HU5 := Lib.hid (HUS.out.then hal)
                    have HSB := Lib.hid HU5.out.size
                    clear hal
                    go_wp2_with (at_builtin; go_must (refine wp_append1 wo.heap.size 82 48 _ 1 24 (.slice Al (L0 ++ ent id (dw.take s)).length cl) (L0 ++ ent id (dw.take s)).length ((L0 ++ ent id (dw.take s)).map WCL.tv) [.slice A' d.us.length m'] _ rfl rfl (by kernel_rfl) infoTs rfl (by decide) (by decide) rfl rfl rfl (by simp [Value.oneCell']) HRO.out HNB.out HSB.out (by have := HLB.out; omega) ?_))
                    intro v1 w4 hown4 hU6 hat4
                    have HOW := Lib.hid hown4
                    have HU6 := Lib.hid hU6
                    clear hown4 hU6 hat4 x1 pc
                    go_wp2_with fail
                    go_roundw
                    case rel => exact ⟨s + 1, by omega, by go_num, by have h := HOW.out; rw [HTK.out]; simp only [List.length_append, List.map_append, List.map_cons, List.map_nil, List.length_cons, List.length_nil, HTV.out, List.append_assoc, Nat.add_assoc, Nat.zero_add] at h ⊢; exact h, HU5.out.trans HU6.out (fun _ h => h) (fun g hg => .inr (HLL.out.lt g (by simpa using hg)).1)⟩
                    case measure => simp [intOf]; omega
                  · have d1 : (d.id == id) = false := by simpa using hi
                    rw [if_neg hi] at htk
                    have HTK := Lib.hid htk
                    clear hd e2 e5 eT htv htk hi x0 x1 y0 y1
                    go_wp2_with fail
                    refine mix_start (n := 14) 14 (fun w' => ∃ p : Wd [] wr, w' = p.v) (by kernel_rfl) (by kernel_rfl) ?_
                    refine mix_quiet [true, true, true, true, true, true, true, true, true, true, true, true, true, true] 0 rfl (by kernel_rfl) (by kernel_rfl) (by kernel_rfl) (by kernel_rfl) ⟨⟨_, (Upd.refl [] wr).drew⟩, rfl⟩ ?_
                    simp only [maskL]
                    repeat (go_big_quiet_step (fail))
                    refine wpQuiet_nil ?_
                    refine mix_end (by kernel_rfl) ?_
                    go_wp2_with fail
                    go_roundw
                    case rel => exact ⟨s + 1, by omega, by go_num, by rw [HTK.out]; exact own_upd HLL.out (S := []) (by repeat (first | exact Upd.refl _ _ | assumption | apply Upd.drewN | apply Upd.drew | apply Upd.alloc)) (by simp), HUS.out.then (by repeat (first | exact Upd.refl _ _ | assumption | apply Upd.drewN | apply Upd.drew | apply Upd.alloc))⟩
                    case measure => simp [intOf]; omega
                · obtain rfl : s = dw.length := by omega
                  rw [List.take_length, ← HLS.out] at HLL
                  simp only [List.take_length]
                  rw [← HLS.out]
                  go_wp2_with fail
                  go_roundw
                  case rel => exact ⟨r + 1, by omega, by go_num, HLL.out, HUS.out⟩
                  case measure => simp [intOf]; omega
            · obtain rfl : r = k := by omega
              obtain ⟨Al, cl, rfl, hl1, hl2, _⟩ := own_shape HL.out
              have HUZ := Lib.hid (HUQ.out.then HUR.out)
              have hwn : Wins wr (LWs P id r) := by
                refine ⟨fun d hd => ?_, fun d hd u hu => ?_, fun d hd u hu => ?_⟩
                · obtain ⟨j, hj, hd⟩ := lws_mem hd
                  exact ⟨_, ((HPT.out j hj).1.ws.upd HUZ.out (by simp) (by simp)).wins d hd⟩
                · obtain ⟨j, hj, hd⟩ := lws_mem hd
                  exact (part_lens hrl (HPT.out j hj).1.pt hd hu).1
                · obtain ⟨j, hj, hd⟩ := lws_mem hd
                  exact (part_lens hrl (HPT.out j hj).1.pt hd hu).2
              have hsa := shard_all (d := dlt r) (fun x => dlL_lt hn1 _) HC.out HMEM.out (fun i => (P i).2.2.map WCL.pl) (fun i hi => (HPT.out i hi).1.pt)
              rw [← lws_flat] at hsa
              obtain ⟨hs1, hs2⟩ := hsa
              obtain ⟨hj1, hj2, hj3, hj4⟩ := shard_join HC.out HMEM.out hs1 hs2
              have hfew := told_few HC.out HMEM.out hs1 hs2
              obtain ⟨hk1, hk2⟩ := hwn.keys
              have hscan : scan [] ((LWs P id r).map fun d => d.us.map (·.1)).flatten = 0 := scan_zero _ [] (fun t ht => by
                obtain ⟨l, hl, e⟩ := hk2 t ht
                rw [e]
                exact hj4 l hl) (by rw [List.nil_append, hk1]; exact hs1)
              have hle := hwn.len_eq
              have hll := lws_len (P := P) (id := id) r (fun j hj => part_nodup (HPT.out j (by omega)).1.pt)
              have hJ := pjoin_calls _ _ ((LWs P id r).map fun d => d.us.map (·.1)) _ (· < wr.heap.size) wr (row_lt HL.out (by simp)) (by simp) hwn.rows hwn.tds.hereS hwn.small (by omega) (by simp; omega) (fun b hb => hb)
              rw [hscan] at hJ
              have HJ := Lib.hid hJ
              have HJ1 := Lib.hid hj1
              have HJ2 := Lib.hid hj2
              have HJ3 := Lib.hid hj3
              clear hwn hs1 hs2 hj1 hj2 hj3 hj4 hfew hk1 hk2 hscan hle hll hJ hl1 hl2
              go_wp2_with fail
              refine HJ.out.mono ?_
              rintro y w6 ⟨v', rfl, hU6, hok6, _⟩
              obtain ⟨os, l', ht1, ht2, ht3, ht4⟩ := hok6 (by first | trivial | rfl)
              obtain ⟨NL, hNL⟩ : ∃ NL, NL = ((LWs P id r).map fun d => d.us.map (·.1)).flatten.length := ⟨_, rfl⟩
              rw [← hNL] at ht4
              clear hNL
              obtain ⟨Av, cv, rfl, _, _, _⟩ := own_shape ht4
              have hU7 := HUZ.out.then hU6
              have hws := HWZ.out.upd hU7 (by simp) (by simp)
              have hwc := hws.wins c (List.mem_of_getElem? HCQ.out)
              have hwf : ∀ u ∈ c.us, u.2.wf := fun u hu => (runE_ok rows).wf_close hrl HC.out c.pl (List.mem_map_of_mem (List.mem_of_getElem? HCQ.out)) u.2 (List.mem_map_of_mem hu)
              have hda := (join_alike ht1 ht2 ht3 HJ1.out HJ2.out HJ3.out).monoS (G := fun _ => True) (fun _ _ => trivial)
              have hdb := hwc.tds hwf (Nat.le_refl _) (fun _ => True) (fun _ _ => trivial)
              have hdd : (c.us.map (·.2)).map tlD = c.us.map fun u => tlD u.2 := by rw [List.map_map]; rfl
              rw [hdd] at hda
              obtain ⟨b2, m2, e, _, ⟨y0, y1⟩, _, _, A', m', eT⟩ := hws.at_ HCQ.out
              have HAA := Lib.hid (allAlike_calls _ _ l' _ _ (fun _ => True) (fun _ => True) w6 ((own_row TC.len (by decide) ht4).2.mono (fun _ _ => trivial)) (hwc.rowK.mono (fun _ _ => trivial)) hda hdb)
              rw [eT] at HAA y1
              have HU7 := Lib.hid hU7
              injection e with e4 e5 e6
              subst e4 e6
              clear hU7 hws hwc hwf hda hdb hdd eT e5 ht1 ht2 ht3 ht4 hU6 hok6 y0
              go_wp2_with fail
              refine HAA.out.mono ?_
              rintro y w8 ⟨rfl, hU8⟩
              have HU8 := Lib.hid (HU7.out.then hU8)
              clear hU8 y1
              go_wp2_with fail
              go_roundw
              case rel => exact ⟨q + 1, by omega, by go_num, HU8.out⟩
              case measure => simp [intOf]; omega
        · go_wp2_with fail
          generalize wr = wo at *
          go_loopw [17] (fun j wr => ∃ r : Nat, r ≤ k ∧ j = .int .i64 r ∧ Upd [] wz wr) (fun j _ => k - (intOf j).toNat)
          case atStart => exact ⟨0, Nat.zero_le _, rfl, HUQ.out⟩
          case round =>
            obtain ⟨r, hr, rfl, hU⟩ := hrel
            have HUR := Lib.hid hU
            clear hU
            by_cases hlt4 : r < k
            · obtain ⟨hp1, _⟩ := HPT.out r hlt4
              have HPR := Lib.hid hp1
              have hpc := HPC.out r hlt4
              have hsh := own_shape hp1.ws.row
              generalize (P r).2.2 = dw at *
              generalize (P r).2.1 = Br at *
              generalize (P r).1 = vr at *
              obtain ⟨Ar, cr, rfl, hd1, hd2, _⟩ := hsh
              have hdw : dw.length ≤ 9223372036854775807 := by unfold maxLen at hd2; omega
              have HPCR := Lib.hid hpc
              clear hp1 hpc hd1 hd2
              go_wp2_with fail
              generalize wr = wq at *
              go_loopw [18] (fun j wr => ∃ s : Nat, s ≤ dw.length ∧ j = .int .i64 s ∧ Upd [] wz wr) (fun j _ => dw.length - (intOf j).toNat)
              case atStart => exact ⟨0, Nat.zero_le _, rfl, HUR.out⟩
              case round =>
                obtain ⟨s, hs, rfl, hU⟩ := hrel
                have HUS := Lib.hid hU
                clear hU
                have pc := HUS.out.cell HPCR.out (by simp)
                by_cases hlt5 : s < dw.length
                · obtain ⟨d, hd⟩ : ∃ d, dw[s]? = some d := ⟨dw[s], List.getElem?_eq_getElem hlt5⟩
                  obtain ⟨b, m, e, _, ⟨x0, x1⟩, _⟩ := (HPR.out.ws.upd HUS.out (by simp) (by simp)).at_ hd
                  injection e with e1 e2 e3
                  subst e1 e3
                  have hmem := shard_ids HC.out HPR.out.pt d.pl (List.mem_map_of_mem (List.mem_of_getElem? hd))
                  have HAM := Lib.hid (among_calls (HWZ.out.upd HUS.out (by simp) (by simp)) d.id (by rw [List.map_map] at hmem; exact hmem))
                  clear hd e2 hmem x1
                  go_wp2_with fail
                  refine HAM.out.mono ?_
                  rintro y w8 ⟨rfl, rfl⟩
                  go_wp2_with fail
                  go_roundw
                  case rel => exact ⟨s + 1, by omega, by go_num, HUS.out⟩
                  case measure => simp [intOf]; omega
                · go_wp2_with fail
                  go_roundw
                  case rel => exact ⟨r + 1, by omega, by go_num, HUS.out⟩
                  case measure => simp [intOf]; omega
            · have HF := Lib.hid (HUW.out.then HUR.out)
              go_wp2
              go_ret
              exact ⟨rfl, HF.out⟩
theorem aggShards_calls (c0 : List Value) (x0 : GT.den (.slice gRow)) (c1 : List Value) (x1 : GT.den gI) (W : World) (h0 : Rd W (· < W.heap.size) (.slice gRow) c0 x0) (h1 : Rd W (· < W.heap.size) gI c1 x1) (hk : GT.bulk (.slice gRow) x0 + GT.bulk gI x1 ≤ 1048576) (hM : MaxL W) :
    Calls Tryz.prog 11 #[GT.val (.slice gRow) c0, GT.val gI c1] W fun e w' => e = .returned (.bool true) ∧ Upd [] W w' := by
  obtain ⟨v, rows, rfl, hR, hok, _⟩ := rd_rows h0 (by omega)
  obtain ⟨rfl, _⟩ := h1
  exact shards_calls rows v x1 _ W hR (fun b h => h) hok hM
end Go.Proofs.YthbjpoiolmlpmaaGreatDoor
