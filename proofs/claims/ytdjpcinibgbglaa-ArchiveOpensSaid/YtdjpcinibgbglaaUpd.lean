/- (*File).Update, where it takes the point. -/
import Derived.Test.YtdjpcinibgbglaaCreate
import Derived.Test.YtdjpcinibgbglaaFileL
import Derived.Test.YtdjpcinibgbglaaWithin
import Derived.Test.YtdjpcinibgbglaaAvg
import Derived.WalkSpells
set_option linter.unusedVariables false
set_option linter.unusedSimpArgs false
namespace Go.Proofs.Ytdjpcinibgbglaa
open Go.RowKit Go.Sort
/-- What the method's function does, called with numbers that are not too many and not too great. -/
def RollOk (m : Int) : Prop := ∀ (F : Nat → Prop) (v : Value) (zs : List Int) (W : World), RowK W F wc 2 v zs → zs ≠ [] → zs.length ≤ 1048576 → (∀ z ∈ zs, I128 z) → I128 zs.sum →
  Calls Try.prog (rollF m) #[v] W fun e w' => e = .returned (wide (rolledM m zs)) ∧ Upd [] W w'
theorem roll_avg : RollOk 1 := fun F v zs W hr hne hn hz hs => average_calls F v zs W hr hz hn hs hne
theorem maxLen_le : maxLen ≤ 9223372036854775807 := by unfold maxLen; decide
theorem file_last {f : Fl} (h : f.bands ≠ []) : ∃ (q : Nat) (b : Band), f.bands.length = q + 1 ∧ f.bands[q]? = some b ∧ f.last = reachS b.spc := by
  obtain ⟨b, hb⟩ : ∃ b, f.bands.getLast? = some b := ⟨f.bands.getLast h, List.getLast?_eq_some_getLast h⟩
  have hl := List.length_pos_iff.2 h
  refine ⟨f.bands.length - 1, b, by omega, by rw [← List.getLast?_eq_getElem?, hb], ?_⟩
  unfold Fl.last
  rw [hb]
  rfl
theorem wrap_small {x : Int} (h0 : 0 ≤ x) (h1 : x ≤ 1099511627775) : IntKind.i64.wrap x = x := wrapI' (by unfold I64; omega)
theorem rollB_stop {m x t : Int} {fine c : Band} {cs : List Band} (h : knowns fine (t - t % c.step) (c.step / fine.step).toNat = [] ∨ ((knowns fine (t - t % c.step) (c.step / fine.step).toNat).length : Int) * 1000000 < x * (c.step / fine.step)) : rollB m x t fine (c :: cs) = c :: cs := by
  rw [rollB]
  exact if_pos h
theorem rollB_go {m x t : Int} {fine c : Band} {cs : List Band} (h : ¬ (knowns fine (t - t % c.step) (c.step / fine.step).toNat = [] ∨ ((knowns fine (t - t % c.step) (c.step / fine.step).toNat).length : Int) * 1000000 < x * (c.step / fine.step))) :
    rollB m x t fine (c :: cs) = c.put (t - t % c.step) (rolledM m (knowns fine (t - t % c.step) (c.step / fine.step).toNat)) :: rollB m x t (c.put (t - t % c.step) (rolledM m (knowns fine (t - t % c.step) (c.step / fine.step).toNat))) cs := by
  rw [rollB]
  exact if_neg h
theorem infoW : (Try.prog.info? 47).map (fun i => (i.zero, i.size, i.bytes)) = some (some (.agg #[.int .i64 0, .int .u64 0]), 2, 16) := by kernel_rfl
theorem wc_one (z : Int) : ∀ u ∈ wc z, u.oneCell' = true := by intro u hu; simp [wc] at hu; rcases hu with rfl | rfl <;> rfl
theorem step_mul {k N s c : Int} (h0 : 0 ≤ k) (hk : k < N) (hs : 1 ≤ s) (hc : 0 ≤ c) (hN : c / s = N) : 0 ≤ k * s ∧ k * s ≤ c := by
  have h1 := Int.mul_ediv_add_emod c s
  have h2 := Int.emod_nonneg c (show s ≠ 0 by omega)
  have h3 : k * s ≤ N * s := Int.mul_le_mul_of_nonneg_right (by omega) (by omega)
  rw [hN] at h1
  have h4 : s * N = N * s := Int.mul_comm _ _
  exact ⟨Int.mul_nonneg h0 (by omega), by omega⟩
theorem roll_bd {len N fs cs : Int} (hl : len ≤ N) (hfs : 1 ≤ fs) (h : fs * N ≤ cs) : len * (1208925819614629174706176 * fs) ≤ 1208925819614629174706176 * cs := by
  have h1 : len * (1208925819614629174706176 * fs) ≤ N * (1208925819614629174706176 * fs) := Int.mul_le_mul_of_nonneg_right hl (by omega)
  have h2 : N * (1208925819614629174706176 * fs) = 1208925819614629174706176 * (fs * N) := by grind
  have h3 : 1208925819614629174706176 * (fs * N) ≤ 1208925819614629174706176 * cs := Int.mul_le_mul_of_nonneg_left h (by decide)
  omega
theorem meas_lt {j n : Nat} (h : j + 1 < n) : n - (intOf (.int .i64 ((j : Int) + 1 + 1))).toNat < n - (intOf (.int .i64 ((j : Int) + 1))).toNat := by
  show n - ((j : Int) + 1 + 1).toNat < n - ((j : Int) + 1).toNat
  omega
theorem set_take {α : Type} : ∀ (l : List α) (k : Nat) (x : α), k < l.length → (l.set k x).take (k + 1) = l.take k ++ [x] ∧ (l.set k x).drop (k + 1) = l.drop (k + 1)
  | [], k, x, h => by simp at h
  | y :: l, 0, x, h => by simp
  | y :: l, k + 1, x, h => by
    obtain ⟨h1, h2⟩ := set_take l k x (by simpa using h)
    simp [h1, h2]
theorem muts_ne {Ls : List Loc} (h : (muts Ls).Nodup) {j k : Nat} {L M : Loc} (hj : Ls[j]? = some L) (hk : Ls[k]? = some M) (hne : j ≠ k) : L.l ≠ M.l ∧ L.i ≠ M.i := by
  unfold muts List.Nodup at h
  rw [List.pairwise_flatMap] at h
  have h2 := List.pairwise_iff_getElem.1 h.2
  obtain ⟨hj1, rfl⟩ := List.getElem?_eq_some_iff.1 hj
  obtain ⟨hk1, rfl⟩ := List.getElem?_eq_some_iff.1 hk
  rcases Nat.lt_or_gt_of_ne hne with hlt | hgt
  · have h3 := h2 j k hj1 hk1 hlt
    exact ⟨h3 _ (by simp) _ (by simp), h3 _ (by simp) _ (by simp)⟩
  · have h3 := h2 k j hk1 hj1 hgt
    exact ⟨(h3 _ (by simp) _ (by simp)).symm, (h3 _ (by simp) _ (by simp)).symm⟩
theorem FileAt.put {w w' : World} {base fb k : Nat} {f : Fl} {v : Value} {Ls : List Loc} {L : Loc} {b b' : Band} (h : FileAt w base fb f v Ls) (hL : Ls[k]? = some L) (hb : f.bands[k]? = some b) (hU : Upd [L.l, L.i] w w') (hB : BandAt w' L b') :
    FileAt w' base fb { f with bands := f.bands.set k b' } v Ls ∧ Upd (muts Ls) w w' := by
  have hm := mem_muts hL
  have hS : ∀ y, y ∉ muts Ls → y ∉ [L.l, L.i] := fun y hy hm2 => by
    simp at hm2
    rcases hm2 with rfl | rfl
    · exact hy hm.1
    · exact hy hm.2
  have hB0 := h.band k L b hL hb
  refine ⟨⟨h.hf.upd hU (hS _ (h.hb_ne h.hf (by decide) (by decide))), h.row.upd hU (fun y hy e => hS y (h.own y e) hy), by simpa using h.len, ?_, h.nodup, h.own, h.up, h.low⟩, hU.mono (fun y hy => .inl (by simp at hy; rcases hy with rfl | rfl; exact hm.1; exact hm.2))⟩
  intro j L' b2 hj hb2
  by_cases hjk : j = k
  · subst hjk
    rw [hL] at hj
    injection hj with hj
    subst hj
    have hkl : j < f.bands.length := (List.getElem?_eq_some_iff.1 hb).1
    simp only [List.getElem?_set_self hkl, Option.some.injEq] at hb2
    subst hb2
    exact hB
  · simp only [List.getElem?_set_ne (Ne.symm hjk)] at hb2
    have hB2 := h.band j L' b2 hj hb2
    have hne := muts_ne h.nodup hj hL hjk
    refine hB2.upd hU (hS _ (h.hb_ne hB2.hb (by decide) (by decide))) ?_ ?_
    · simp only [List.mem_cons, List.not_mem_nil, or_false, not_or]
      exact ⟨hne.1, hB2.hl.ne hB0.hi (by decide)⟩
    · simp only [List.mem_cons, List.not_mem_nil, or_false, not_or]
      exact ⟨hB2.hi.ne hB0.hl (by decide), hne.2⟩
theorem first_at {l : List Band} {d : Int} : ∀ {q : Nat} {b : Band}, l[q]? = some b → d ≤ reachS b.spc → ∃ (k : Nat) (c : Band), l[k]? = some c ∧ d ≤ reachS c.spc ∧ (∀ (j : Nat) (b : Band), j < k → l[j]? = some b → ¬ d ≤ reachS b.spc) ∧
    ∀ m x t v, upB m x t v d l = l.take k ++ c.put t v :: rollB m x t (c.put t v) (l.drop (k + 1)) := by
  induction l with
  | nil => intro q b h; simp at h
  | cons y l ih =>
    intro q b h hd
    by_cases h0 : d ≤ reachS y.spc
    · refine ⟨0, y, rfl, h0, fun j b hj => by omega, fun m x t v => ?_⟩
      simp [upB, h0]
    · cases q with
      | zero => simp at h; subst h; exact absurd hd h0
      | succ q =>
        obtain ⟨k, c, h1, h2, h3, h4⟩ := ih (q := q) (b := b) (by simpa using h) hd
        refine ⟨k + 1, c, by simpa using h1, h2, ?_, fun m x t v => ?_⟩
        · intro j b2 hj hb2
          cases j with
          | zero => simp at hb2; subst hb2; exact h0
          | succ j => exact h3 j b2 (by omega) (by simpa using hb2)
        · simp [upB, h0, h4 m x t v]
theorem enters_roll (m : Int) (h : 1 ≤ m ∧ m ≤ 5) : ∀ args w, (callFunc (rollF m) args).run Try.prog w = .ok (.enter (rollF m) args) w := by
  obtain rfl | rfl | rfl | rfl | rfl : m = 1 ∨ m = 2 ∨ m = 3 ∨ m = 4 ∨ m = 5 := by omega
  · exact enters_of Try.func66 (by kernel_rfl) rfl
  · exact enters_of Try.func67 (by kernel_rfl) rfl
  · exact enters_of Try.func68 (by kernel_rfl) rfl
  · exact enters_of Try.func69 (by kernel_rfl) rfl
  · exact enters_of Try.func70 (by kernel_rfl) rfl
set_option maxRecDepth 20000 in
set_option maxHeartbeats 4000000 in
theorem update_ok (base fb : Nat) (f : Fl) (v : Value) (Ls : List Loc) (t val now : Int) (w : World) (hf : FileAt w base fb f v Ls) (hok : f.ok) (hroll : RollOk f.m)
    (ht : sec t = true) (hn : sec now = true) (hv : fitV val 1 = true) (hle : t ≤ now) (hlast : now - t < f.last) (hbase : base ≤ w.heap.size) :
    Calls Try.prog 20 #[.pointer (some ⟨fb, 0, none⟩), .agg #[.int .i64 t, .int .i64 (wh val), .int .u64 (wl val)], .int .i64 now] w
      fun e w' => e = .returned (.int .i64 0) ∧ FileAt w' base fb { f with bands := upB f.m f.xff t val (now - t) f.bands } v Ls ∧ Upd (muts Ls) w w' := by
  obtain ⟨A, c, rfl, hc1, hc2, hc3⟩ := hf.row.shape
  have hlen := hf.len
  obtain ⟨q, bl, hq1, hq2, hq3⟩ := file_last hok.ne
  obtain ⟨Ll, hLl⟩ : ∃ L, Ls[q]? = some L := ⟨Ls[q], List.getElem?_eq_getElem (by omega)⟩
  obtain ⟨g, o, rfl, hgo, hcell⟩ := hf.row.at_ hLl
  have hP := HB.new w 49 [.int .i64 t, .int .i64 (wh val), .int .u64 (wl val)]
  obtain ⟨W0, hW0⟩ : ∃ W0, W0 = w.alloc (.cells #[.int .i64 t, .int .i64 (wh val), .int .u64 (wl val)] 49) := ⟨_, rfl⟩
  rw [← hW0] at hP
  have hU0 : Upd [] w W0 := by rw [hW0]; exact (Upd.refl _ _).alloc _
  have HF0 := Lib.hid (hf.upd0 hU0)
  have HP := Lib.hid hP
  have HU0 := Lib.hid hU0
  have htb : 0 ≤ t ∧ t ≤ 1099511627775 := by simpa [sec] using ht
  have hnb : 0 ≤ now ∧ now ≤ 1099511627775 := by simpa [sec] using hn
  have HVB := Lib.hid (show (val.natAbs : Int) ≤ 1208925819614629174706176 by unfold fitV at hv; simp at hv; omega)
  have hvb : I128 val := by unfold fitV at hv; simp at hv; unfold I128; omega
  have HM := Lib.hid (fun W (hW : Upd [] W0 W) => made_calls base fb f _ Ls W (HF0.out.upd0 hW) hok.ne)
  have HS1 := Lib.hid (fun W => second_calls t W)
  have HS2 := Lib.hid (fun W => second_calls now W)
  rw [ht] at HS1
  rw [hn] at HS2
  have HWI := Lib.hid (fun W => within_calls val 1 W hvb (by decide) (by decide))
  rw [hv] at HWI
  have HOK := Lib.hid hok
  have HROLL := Lib.hid hroll
  have hI : I64 (bl.step * (bl.n : Int)) := by have := reach_le (hok.bands bl (List.mem_of_getElem? hq2)).spc; unfold reachS Band.spc at this; simp only at this; unfold I64; omega
  have hlt' : now - t < bl.step * (bl.n : Int) := by rw [hq3] at hlast; exact hlast
  have hLq : Ls.length = q + 1 := by omega
  have HLQ := Lib.hid hLq
  have HQ2 := Lib.hid hq2
  have HLL := Lib.hid hLl
  have C0 := Lib.hid (show w.cell? ⟨g, o + q, none⟩ = some (pB Ll.b) by simpa using hcell 0 _ rfl)
  have hlm : Ls.length ≤ 9223372036854775807 := Nat.le_trans hc1 (Nat.le_trans hc2 maxLen_le)
  have eq1 : wrap64 ((Ls.length : Int) - 1) = (q : Int) := by rw [w64 (by unfold I64; omega)]; omega
  have eq3 : IntKind.i64.wrap ((Ls.length : Int) - 1) = (q : Int) := by rw [wrapI' (by unfold I64; omega)]; omega
  have hqI : (q : Int) < (Ls.length : Int) := by omega
  have ew1 : IntKind.i64.wrap (now - t) = now - t := wrapI' (by unfold I64; omega)
  have ew2 : wrap64 (now - t) = now - t := w64 (by unfold I64; omega)
  have d1 : decide (now < t) = false := decide_eq_false (by omega)
  have d2 : decide (bl.step * (bl.n : Int) ≤ now - t) = false := decide_eq_false (by omega)
  have HBASE := Lib.hid hbase
  have HC := Lib.hid (And.intro hc1 hc2)
  have HGO := Lib.hid hgo
  have HQ1 := Lib.hid hq1
  have HLAST := Lib.hid hq3
  have HLT := Lib.hid hlast
  have HFW := Lib.hid hf
  clear hf hok hroll ht hn hv hlast hbase hc1 hc2 hc3 hlen hq1 hq2 hq3 hLl hcell hgo hP hU0 hlt' hLq
  go_enter Try.func20, Try.ntmps20
  go_wp2_with fail
  rw [← hW0]
  refine (HM.out _ (Upd.refl _ _)).mono ?_
  rintro e w1 ⟨rfl, hU1⟩
  have HU1 := Lib.hid hU1
  have p0 := (HP.out.upd hU1 (by simp)).cell (j := 0) rfl
  have p1 := (HP.out.upd hU1 (by simp)).cell (j := 1) rfl
  have p2 := (HP.out.upd hU1 (by simp)).cell (j := 2) rfl
  clear hU1 hW0
  go_wp2_with fail
  refine (HS1.out _).mono ?_
  rintro e w2 ⟨rfl, rfl⟩
  go_wp2_with fail
  refine (HS2.out _).mono ?_
  rintro e w2 ⟨rfl, rfl⟩
  go_wp2_with fail
  refine (HWI.out _).mono ?_
  rintro e w3 ⟨rfl, hU3⟩
  have HU3 := Lib.hid (HU1.out.then hU3)
  clear hU3 p0 p1 p2
  have hF3 := HF0.out.upd0 HU3.out
  have hP3 := HP.out.upd HU3.out (by simp)
  have hB3 := hF3.band q Ll bl HLL.out HQ2.out
  have x0 := fun d os => rg_cell (hP3.cell (j := 0) rfl) d os
  have x1 := fun d os => rg_cell (hF3.hf.cell (j := 2) rfl) d os
  have x2 := fun d os => rg_cell ((HU0.out.then HU3.out).cell C0.out (by simp)) d os
  have x3 := fun d os => rg_cell (hB3.hb.cell (j := 0) rfl) d os
  have x4 := fun d os => rg_cell (hB3.hb.cell (j := 1) rfl) d os
  clear hF3 hP3 hB3
  go_wp2_with fail
  refine wp_region_quiet_below (by kernel_rfl) (by kernel_rfl) ?_
  repeat (go_big_quiet_step ((go_at_call 43; exact rg_of (reach_calls _ _ (by assumption) _))))
  refine wpQuiet_nil ?_
  rintro _ ⟨⟨dq, osq⟩, rfl⟩
  clear x0 x1 x2 x3 x4
  have HU4 := Lib.hid (HU3.out.then (rg_upd w3 dq osq))
  obtain ⟨W4, hW4⟩ : ∃ W4, W4 = grow (redrawn w3 dq) osq := ⟨_, rfl⟩
  rw [← hW4] at HU4 ⊢
  clear hW4 HU3 HU1
  have p0 := (HP.out.upd HU4.out (by simp)).cell (j := 0) rfl
  obtain ⟨k, bk, hk1, hk2, hk3, hk4⟩ := first_at HQ2.out (d := now - t) (by rw [HLAST.out] at HLT; exact Int.le_of_lt HLT.out)
  have hkl : k < f.bands.length := (List.getElem?_eq_some_iff.1 hk1).1
  have HRE := Lib.hid (reaches_calls base fb f _ Ls (now - t) W4 (HF0.out.upd0 HU4.out) HOK.out k hkl (fun b hb => by rw [hk1] at hb; injection hb with hb; subst hb; exact hk2) hk3)
  have HK1 := Lib.hid hk1
  have HK4 := Lib.hid hk4
  clear hk1 hk2 hk3 hk4
  go_wp2_with fail
  refine HRE.out.mono ?_
  rintro e w5 ⟨rfl, hU5⟩
  have HU5 := Lib.hid (HU4.out.then hU5)
  clear hU5 HU4 HRE p0
  have hkL : k < Ls.length := by have := HQ1.out; have := HLQ.out; omega
  have hkI : (k : Int) < (Ls.length : Int) := by omega
  obtain ⟨Lk, hLk⟩ : ∃ L, Ls[k]? = some L := ⟨Ls[k], List.getElem?_eq_getElem hkL⟩
  have hF5 := HF0.out.upd0 HU5.out
  obtain ⟨g', o', hgo', _, hck⟩ := hF5.row.at_ hLk
  injection hgo' with hgo'
  injection hgo' with hg' ho' _
  subst hg' ho'
  have c0 : w5.cell? ⟨g, o + k, none⟩ = some (pB Lk.b) := by simpa using hck 0 _ rfl
  have p0 := (HP.out.upd HU5.out (by simp)).cell (j := 0) rfl
  have p1 := (HP.out.upd HU5.out (by simp)).cell (j := 1) rfl
  have p2 := (HP.out.upd HU5.out (by simp)).cell (j := 2) rfl
  have y2 := hF5.hf.cell (j := 2) rfl
  have hBk := HOK.out.bands bk (List.mem_of_getElem? HK1.out)
  have hBb := hBk.b
  have HPUT := Lib.hid (fun W (hW : Upd [] w5 W) => bput_calls Lk bk t val W ((hF5.band k Lk bk hLk HK1.out).upd0 hW) hBb.1 hBb.2.2.1 hBb.2.2.2.1 ⟨by omega, by omega⟩ ((hF5.band k Lk bk hLk HK1.out).hl.ne (hF5.band k Lk bk hLk HK1.out).hi (by decide)))
  have HLK := Lib.hid hLk
  have HF5 := Lib.hid hF5
  have HBK := Lib.hid hBk
  clear hck hF5 hBk hBb hLk
  go_wp2_with fail
  refine still_tail 11 (by kernel_rfl) (by kernel_rfl) ?_
  simp only [List.take_succ_cons, List.take_zero, List.drop_succ_cons, List.drop_zero]
  repeat still_step
  refine wpStill_nil ?_
  go_wp2_with fail
  refine (HPUT.out _ ((Upd.refl _ _).drew)).mono ?_
  rintro e w6 ⟨rfl, hU6, hB6⟩
  have hU6' := (HF5.out.upd0 ((Upd.refl [] w5).drew)).put HLK.out HK1.out hU6 hB6
  have HF6 := Lib.hid hU6'.1
  have HU6 := Lib.hid (HU5.out.of0.then (((Upd.refl [] w5).drew.of0).then hU6'.2))
  have HPM := Lib.hid (show w.heap.size ∉ muts Ls from fun hm => by
    obtain ⟨j, L, b, h1, h2, h3⟩ := HF5.out.mem hm
    have hB := HFW.out.band j L b h1 h2
    rcases h3 with e | e
    · have := hB.hl.lt; omega
    · have := hB.hi.lt; omega)
  have HP6 := Lib.hid (HP.out.upd HU6.out HPM.out)
  clear hU6' hU6 hB6 c0 p0 p1 p2 y2 HPUT HU5 HF5
  go_wp2_with fail
  have HSTART := Lib.hid (show upB f.m f.xff t val (now - t) f.bands = (f.bands.set k (bk.put t val)).take (k + 1) ++ rollB f.m f.xff t (bk.put t val) ((f.bands.set k (bk.put t val)).drop (k + 1)) by
    have h := set_take f.bands k (bk.put t val) hkl
    rw [HK4.out, h.1, h.2, List.append_assoc]
    rfl)
  have HOK6 := Lib.hid (HOK.out.put HK1.out (t := t) (v := val) htb (by have := HBK.out.b; have := HVB.out; omega))
  go_loopw [8] (fun i wr => ∃ (j : Nat) (bs : List Band) (fine : Band), i = .int .i64 ((j : Int) + 1) ∧ j + 1 ≤ f.bands.length ∧ bs.length = f.bands.length ∧ FileAt wr base fb { f with bands := bs } (.slice (some ⟨g, o, none⟩) Ls.length c) Ls ∧ Upd (muts Ls) W0 wr ∧ Fl.ok { f with bands := bs } ∧ bs[j]? = some fine ∧ upB f.m f.xff t val (now - t) f.bands = bs.take (j + 1) ++ rollB f.m f.xff t fine (bs.drop (j + 1))) (fun i _ => f.bands.length - (intOf i).toNat)
  case atStart => exact ⟨k, _, bk.put t val, rfl, hkl, by simp, HF6.out, HU6.out, HOK6.out, List.getElem?_set_self hkl, HSTART.out⟩
  case round =>
    obtain ⟨j, bs, fine, rfl, hj, hbl, hFr, hUr, hokr, hfine, hup⟩ := hrel
    generalize wr = wo at *
    have HFR := Lib.hid hFr
    have HUR := Lib.hid hUr
    have HOKR := Lib.hid hokr
    have HFI := Lib.hid hfine
    have HUP := Lib.hid hup
    have HBL := Lib.hid hbl
    have HLEN := Lib.hid (show Ls.length = f.bands.length from HFW.out.len)
    have y2 := hFr.hf.cell (j := 2) rfl
    clear hFr hUr hokr hfine hup hbl HF6 HU6 HOK6 HSTART HP6 HK4 HBK HM HS1 HS2 HWI eq1 eq3 ew1 ew2 d1 d2 hI hqI hkI
    by_cases hlt : j + 1 < f.bands.length
    · have hLl := HLEN.out
      have hjI : (j : Int) + 1 < (Ls.length : Int) := by omega
      have hjI0 : (j : Int) < (Ls.length : Int) := by omega
      obtain ⟨co, hco⟩ : ∃ co, bs[j + 1]? = some co := ⟨bs[j + 1]'(by rw [HBL.out]; omega), List.getElem?_eq_getElem _⟩
      obtain ⟨Lf, hLf⟩ : ∃ L, Ls[j]? = some L := ⟨Ls[j]'(by omega), List.getElem?_eq_getElem _⟩
      obtain ⟨Lc, hLc⟩ : ∃ L, Ls[j + 1]? = some L := ⟨Ls[j + 1]'(by omega), List.getElem?_eq_getElem _⟩
      obtain ⟨g', o', hgo', _, hckf⟩ := HFR.out.row.at_ hLf
      injection hgo' with hgo'
      injection hgo' with hg' ho' _
      subst hg' ho'
      obtain ⟨g', o', hgo', _, hckc⟩ := HFR.out.row.at_ hLc
      injection hgo' with hgo'
      injection hgo' with hg' ho' _
      subst hg' ho'
      have cf : wo.cell? ⟨g, o + j, none⟩ = some (pB Lf.b) := by simpa using hckf 0 _ rfl
      have cc : wo.cell? ⟨g, o + (j + 1), none⟩ = some (pB Lc.b) := by simpa using hckc 0 _ rfl
      have hBf := HFR.out.band j Lf fine hLf HFI.out
      have hBc := HFR.out.band (j + 1) Lc co hLc hco
      have sf := hBf.hb.cell (j := 0) rfl
      have sc := hBc.hb.cell (j := 0) rfl
      have p0 := (HP.out.upd HUR.out HPM.out).cell (j := 0) rfl
      have hokf := HOKR.out.bands fine (List.mem_of_getElem? HFI.out)
      have hokc := HOKR.out.bands co (List.mem_of_getElem? hco)
      have hpair := HOKR.out.pairs j fine co HFI.out hco
      have hfb := hokf.b
      have hcb := hokc.b
      have hc0 : 0 ≤ co.step := Int.le_trans (by decide) hcb.1
      have edv : co.step.tdiv fine.step = co.step / fine.step := Int.tdiv_eq_ediv_of_nonneg hc0
      have edl := ediv_le' (t := co.step) (s := fine.step) hc0 hfb.1
      have edw : IntKind.i64.wrap (co.step / fine.step) = co.step / fine.step := wrap_small edl.1 (Int.le_trans edl.2 hcb.2.1)
      have hINT := Lib.hid (fun W (hW : Upd [] wo W) => interval_calls Lc.b Lc.l Lc.i co t W (hBc.hb.upd hW (by simp)) hcb.1 ⟨htb.1, Int.le_trans htb.2 (by decide)⟩)
      have HBF := Lib.hid hBf
      have HBC := Lib.hid hBc
      have HCO := Lib.hid hco
      have HPAIR := Lib.hid hpair
      have HOKF := Lib.hid hokf
      have HOKC := Lib.hid hokc
      have HLF := Lib.hid hLf
      have HLC := Lib.hid hLc
      have hfs : 1 ≤ fine.step := hfb.1
      have ej1 : wrap64 (j : Int) = (j : Int) := w64 ⟨Int.le_trans (by decide) (Int.natCast_nonneg j), by have := hlm; omega⟩
      obtain ⟨N, hN⟩ : ∃ N : Nat, co.step / fine.step = (N : Int) := ⟨(co.step / fine.step).toNat, (Int.toNat_of_nonneg edl.1).symm⟩
      rw [hN] at edv edw edl
      obtain ⟨frm, hfrm⟩ : ∃ frm, frm = t - t % co.step := ⟨_, rfl⟩
      rw [← hfrm] at hINT
      have hfb1 := emod_le' htb.1 hcb.1
      have HFRM := Lib.hid (show 0 ≤ frm ∧ frm ≤ 1099511627775 by rw [hfrm]; omega)
      have HFE := Lib.hid hfrm
      have HN := Lib.hid hN
      clear hN hfrm hfb1
      have EDV := Lib.hid edv
      have EDW := Lib.hid edw
      have EDL := Lib.hid edl
      have HFB2 := Lib.hid hfb
      have HCB2 := Lib.hid hcb
      clear edv edw edl hfb hcb
      clear hckf hckc hBf hBc hokf hokc hpair hLf hLc hco hLl
      go_wp2_with fail
      go_quiet (fail)
      clear ej1
      go_wp2_with fail
      refine (hINT.out _ ((Upd.refl _ _).drewN _)).mono ?_
      rintro e w7 ⟨rfl, rfl⟩
      have edv := EDV.out
      have edw := EDW.out
      go_wp2_with fail
      go_quiet (fail)
      clear edv edw
      have HNLE := Lib.hid EDL.out.2
      go_wp2_with fail
      go_loopw [13, 122] (fun a kk wi => ∃ i2 : Nat, kk = .int .i64 (i2 : Int) ∧ i2 ≤ N ∧ Upd [] wo wi ∧ wi.ownsRow wo.heap.size 47 2 a (knowns fine frm i2).length ((knowns fine frm i2).flatMap wc)) (fun a kk _ => N - (intOf kk).toNat)
      case atStart => exact ⟨0, rfl, Nat.zero_le _, by repeat (first | exact Upd.refl _ _ | refine Upd.drewN ?_ _ | refine Upd.drew ?_), ⟨rfl, .inl ⟨rfl, rfl⟩⟩⟩
      case round =>
        obtain ⟨i2, rfl, hi2, hUi, hOi⟩ := hrel
        have HUI := Lib.hid hUi
        have HOI := Lib.hid hOi
        have HI2 := Lib.hid hi2
        have sf2 := hUi.cell sf (by simp)
        have y22 := hUi.cell y2 (by simp)
        clear hUi hOi sf sc p0 y2 cf cc
        by_cases h2 : i2 < N
        · have hlen2 := (knowns_le HOKF.out frm i2).2
          have HLEN2 := Lib.hid hlen2
          have h32 : N ≤ 1099511627775 := by have h1 := HNLE.out; have h2 := HCB2.out.2.1; omega
          have HN32 := Lib.hid h32
          have EWI := Lib.hid (show wrap64 ((i2 : Int) + 1) = (i2 : Int) + 1 from w64 (by unfold I64; omega))
          have hi2I : (i2 : Int) < (N : Int) := by omega
          have hms : N - (i2 + 1) < N - i2 := by omega
          clear hlen2 h32
          have hsm := step_mul (Int.natCast_nonneg i2) (show (i2 : Int) < (N : Int) by omega) hfs hc0 HN.out
          obtain ⟨P, hPe⟩ : ∃ P, (i2 : Int) * fine.step = P := ⟨_, rfl⟩
          rw [hPe] at hsm
          obtain ⟨T, hTe⟩ : ∃ T, frm + P = T := ⟨_, rfl⟩
          have hT62 : T62 T := by have h1 := HFRM.out; have h2 := HCB2.out; unfold T62; omega
          have wP : IntKind.i64.wrap P = P := wrap_small hsm.1 (Int.le_trans hsm.2 HCB2.out.2.1)
          have wT : IntKind.i64.wrap T = T := wrapI' (by unfold T62 at hT62; unfold I64; omega)
          have hKN := Lib.hid (fun W (hW : Upd [] wr W) => known_calls Lf fine T W ((HBF.out.upd0 HUI.out).upd0 hW) hfs HFB2.out.2.2.1 HFB2.out.2.2.2.1 hT62.2)
          have HKS := Lib.hid (show knowns fine frm (i2 + 1) = knowns fine frm i2 ++ (fine.known T).toList by rw [knowns_succ, hPe, hTe])
          have HTE := Lib.hid hT62
          clear hsm hT62
          obtain ⟨B, q2, rfl, -, -, -⟩ := own_shape HOI.out
          rcases hkn : fine.known T with _ | z
          · rw [hkn] at hKN HKS
            simp only [Option.getD_none, Option.isSome_none, Option.toList_none, List.append_nil] at hKN HKS
            clear hkn
            go_wp2_with fail
            refine (hKN.out _ (Upd.refl _ _)).mono ?_
            rintro e w8 ⟨rfl, hU8⟩
            have HU8 := Lib.hid hU8
            clear hU8 sf2 y22
            go_wp2
            refine ⟨⟨i2 + 1, by rw [EWI.out]; rfl, h2, (HUI.out.then HU8.out).alloc _, ?_⟩, by rw [EWI.out]; exact hms⟩
            rw [HKS.out]
            exact own_upd HOI.out (HU8.out.alloc _) (by simp)
          · rw [hkn] at hKN HKS
            simp only [Option.getD_some, Option.isSome_some, Option.toList_some] at hKN HKS
            clear hkn
            go_wp2_with fail
            refine (hKN.out _ (Upd.refl _ _)).mono ?_
            rintro e w8 ⟨rfl, hU8⟩
            have HU8 := Lib.hid hU8
            have hN8 := HB.new w8 47 (wc z)
            have v0 := hN8.cell (j := 0) rfl
            have v1 := hN8.cell (j := 1) rfl
            have HN9 := Lib.hid (HB.new1 w8 (.cells (wc z).toArray 47) 47 (wc z))
            have HSZ := Lib.hid (Nat.le_trans HUI.out.size hU8.size)
            clear hU8 sf2 y22 hN8
            go_wp2_with (at_builtin; go_must (refine wp_append1 wo.heap.size 53 47 _ 2 16 (.slice B (knowns fine frm i2).length q2) _ _ (wc z) _ rfl rfl (by kernel_rfl) infoW rfl (by decide) (by decide) rfl rfl rfl (wc_one z) (own_upd HOI.out ((HU8.out.alloc _).alloc _) (by simp)) HN9.out (by have := HSZ.out; simp; omega) (by have := HLEN2.out; have := HN32.out; omega) ?_))
            intro v1' w9 hown9 hU9 hat9
            have HO9 := Lib.hid hown9
            have HU9 := Lib.hid (app_upd HUI.out ((HU8.out.alloc _).alloc _) hU9 (own_base HOI.out))
            clear hown9 hU9 hat9 v0 v1
            go_wp2
            refine ⟨⟨i2 + 1, by rw [EWI.out]; rfl, h2, HU9.out, ?_⟩, by rw [EWI.out]; exact hms⟩
            rw [HKS.out, List.length_append, List.flatMap_append]
            simpa using HO9.out
        · obtain rfl : i2 = N := by omega
          have hkl2 := knowns_le HOKF.out frm i2
          have hx := HOK.out.x
          have hN2 := HN.out
          have hpp : co.step / fine.step ≤ (fine.n : Int) := by
            have h := HPAIR.out
            unfold okPair at h
            simp only [Bool.and_eq_true] at h
            exact of_decide_eq_true h.2
          have h4096 : i2 ≤ 4096 := by have h2 := HFB2.out.2.2.2.1; rw [hN2] at hpp; omega
          have hmul : fine.step * (i2 : Int) ≤ co.step := by
            have h1 := Int.mul_ediv_add_emod co.step fine.step
            have h2 := Int.emod_nonneg co.step (show fine.step ≠ 0 by omega)
            rw [hN2] at h1
            omega
          clear hpp hN2
          have hm1 : 0 ≤ f.xff * (i2 : Int) ∧ f.xff * (i2 : Int) ≤ 1000000 * 4096 := ⟨Int.mul_nonneg hx.1 (Int.natCast_nonneg _), Int.mul_le_mul hx.2 (by omega) (Int.natCast_nonneg _) (by decide)⟩
          obtain ⟨XN, hXN⟩ : ∃ XN, f.xff * (i2 : Int) = XN := ⟨_, rfl⟩
          rw [hXN] at hm1
          obtain ⟨zs, hzs⟩ : ∃ zs, zs = knowns fine frm i2 := ⟨_, rfl⟩
          rw [← hzs] at HOI hkl2
          obtain ⟨B, q2, rfl, -, -, -⟩ := own_shape HOI.out
          have WX := Lib.hid (show IntKind.i64.wrap XN = XN from wrapI' (by unfold I64; omega))
          have WX2 := Lib.hid (show wrap64 XN = XN from w64 (by unfold I64; omega))
          have WL := Lib.hid (show wrap64 ((zs.length : Int) * 1000000) = (zs.length : Int) * 1000000 from w64 (by have := hkl2.2; unfold I64; omega))
          have WL2 := Lib.hid (show IntKind.i64.wrap ((zs.length : Int) * 1000000) = (zs.length : Int) * 1000000 from wrapI' (by have := hkl2.2; unfold I64; omega))
          have y1 := (HFR.out.upd0 HUI.out).hf.cell (j := 1) rfl
          have y3 := (HFR.out.upd0 HUI.out).hf.cell (j := 3) rfl
          have hto : (co.step / fine.step).toNat = i2 := by rw [HN.out]; rfl
          have hdrop : bs.drop (j + 1) = co :: bs.drop (j + 1 + 1) := drop_cons' bs (j + 1) co HCO.out
          have HZS := Lib.hid (show zs = knowns fine (t - t % co.step) (co.step / fine.step).toNat by rw [hzs, hto, HFE.out])
          have HXN := Lib.hid (show f.xff * (co.step / fine.step) = XN by rw [HN.out]; exact hXN)
          have HDROP := Lib.hid hdrop
          have HKL2 := Lib.hid hkl2
          have H4096 := Lib.hid h4096
          have HMUL := Lib.hid hmul
          have HUF := Lib.hid (HU0.out.of0.then (HUR.out.then0 HUI.out))
          have HSTOP := Lib.hid (fun (h : zs = [] ∨ (zs.length : Int) * 1000000 < XN) => show upB f.m f.xff t val (now - t) f.bands = bs by
            rw [HUP.out, HDROP.out, rollB_stop (by rw [← HZS.out, HXN.out]; exact h), ← HDROP.out, List.take_append_drop])
          clear hkl2 hx hm1 hzs hto hdrop sf2 y22 h4096 hmul
          by_cases hz0 : zs = []
          · have HFIN := Lib.hid (HSTOP.out (.inl hz0))
            subst hz0
            clear HSTOP WL WX WX2 WL2
            go_wp2
            go_ret
            exact ⟨rfl, by rw [HFIN.out]; exact HFR.out.upd0 HUI.out, HUF.out⟩
          · have hz1 : ((zs.length : Int) == 0) = false := beq_false_of_ne (by have := List.length_pos_iff.2 hz0; omega)
            by_cases hz2 : (zs.length : Int) * 1000000 < XN
            · have HFIN := Lib.hid (HSTOP.out (.inr hz2))
              have hz3 : decide ((zs.length : Int) * 1000000 < XN) = true := decide_eq_true hz2
              clear HSTOP
              have wX := WX.out
              have wL := WL.out
              go_wp2
              go_ret
              exact ⟨rfl, by rw [HFIN.out]; exact HFR.out.upd0 HUI.out, HUF.out⟩
            · have hz3 : decide ((zs.length : Int) * 1000000 < XN) = false := decide_eq_false hz2
              have HNOT := Lib.hid (show ¬ (zs = [] ∨ (zs.length : Int) * 1000000 < XN) from fun h => h.elim hz0 hz2)
              have HZ0 := Lib.hid hz0
              have hzle : ∀ z ∈ zs, (z.natAbs : Int) ≤ 1208925819614629174706176 * fine.step := HKL2.out.1
              have hlen2 : zs.length ≤ i2 := HKL2.out.2
              have hbd := roll_bd (len := (zs.length : Int)) (N := (i2 : Int)) (fs := fine.step) (cs := co.step) (by omega) hfs HMUL.out
              have hsum := sum_le zs hzle
              have hcs := HCB2.out.2.1
              have hfs2 := HFB2.out.2.1
              have hI1 : ∀ z ∈ zs, I128 z := fun z hz => by have := hzle z hz; unfold I128; omega
              have hI2 : I128 zs.sum := by unfold I128; omega
              have hl3 : zs.length ≤ 1048576 := by have := H4096.out; omega
              have hR := rolled_le (m := f.m) hz0 hzle hbd
              obtain ⟨R, hRe⟩ : ∃ R, R = rolledM f.m zs := ⟨_, rfl⟩
              obtain ⟨gR, hgR⟩ : ∃ gR, gR = rollF f.m := ⟨_, rfl⟩
              have HRC := Lib.hid (fun W (hW : Upd [] wr W) => HROLL.out _ _ zs W (((own_row (enc := wc) (k := 2) (fun _ => rfl) (by decide) HOI.out).2).upd0 hW) hz0 hl3 hI1 hI2)
              have EG := enters_roll f.m HOK.out.m
              have y3' : wr.cell? ⟨fb, 3, none⟩ = some (.func (.func gR) #[] #[]) := by rw [hgR]; exact y3
              rw [← hRe, ← hgR] at HRC
              rw [← hgR] at EG
              rw [← hRe] at hR
              have HR := Lib.hid hR
              have HRE := Lib.hid hRe
              have hPB := Lib.hid (fun W (hW : Upd [] wr W) => bput_calls Lc co frm R W ((HBC.out.upd0 HUI.out).upd0 hW) HCB2.out.1 HCB2.out.2.2.1 HCB2.out.2.2.2.1 ⟨HFRM.out.1, Int.le_trans HFRM.out.2 (by decide)⟩ (HBC.out.hl.ne HBC.out.hi (by decide)))
              clear HSTOP hzle hlen2 hbd hsum hcs hfs2 hI1 hI2 hl3 hR hRe hgR y3
              have wX := WX.out
              have wL := WL.out
              go_wp2_with fail
              refine (HRC.out _ (Upd.refl _ _)).mono ?_
              rintro e w10 ⟨rfl, hU10⟩
              have HU10 := Lib.hid hU10
              clear hU10 wX wL
              go_wp2_with fail
              refine (hPB.out _ HU10.out).mono ?_
              rintro e w11 ⟨rfl, hU11, hB11⟩
              have hPF := ((HFR.out.upd0 HUI.out).upd0 HU10.out).put (k := j + 1) HLC.out HCO.out hU11 hB11
              have HF11 := Lib.hid hPF.1
              have HU11 := Lib.hid ((HUR.out.then0 HUI.out).then0 HU10.out |>.then hPF.2)
              clear hU11 hB11 hPF
              go_wp2_with fail
              have hl9 : j + 1 < bs.length := by rw [HBL.out]; exact hlt
              have hst := set_take bs (j + 1) (co.put frm R) hl9
              refine ⟨⟨j + 1, bs.set (j + 1) (co.put frm R), co.put frm R, rfl, hlt, by rw [List.length_set]; exact HBL.out, HF11.out, HU11.out, ?_, List.getElem?_set_self hl9, ?_⟩, ?_⟩
              · exact Fl.ok.put HOKR.out HCO.out HFRM.out HR.out
              · rw [hst.1, hst.2, HUP.out, HDROP.out, rollB_go (by rw [← HZS.out, HXN.out]; exact HNOT.out), List.append_assoc, ← HZS.out, ← HFE.out, HRE.out]
                rfl
              · exact meas_lt hlt
    · have hje : f.bands.length = j + 1 := Nat.le_antisymm (Nat.le_of_not_lt hlt) hj
      have hFIN := HUP.out
      rw [List.drop_eq_nil_of_le (Nat.le_of_eq (by rw [HBL.out, hje])), List.take_of_length_le (Nat.le_of_eq (by rw [HBL.out, hje])), show rollB f.m f.xff t fine [] = [] from by rw [rollB], List.append_nil] at hFIN
      have HFIN := Lib.hid hFIN
      have hjI : ¬ ((j : Int) + 1 < (Ls.length : Int)) := by have h1 := HLEN.out; rw [h1, hje]; omega
      have hjd : decide ((j : Int) + 1 < (Ls.length : Int)) = false := decide_eq_false hjI
      have HUF := Lib.hid (HU0.out.of0.then HUR.out)
      clear hFIN hje
      go_wp2
      go_ret
      exact ⟨rfl, by rw [HFIN.out]; exact HFR.out, HUF.out⟩
end Go.Proofs.Ytdjpcinibgbglaa
