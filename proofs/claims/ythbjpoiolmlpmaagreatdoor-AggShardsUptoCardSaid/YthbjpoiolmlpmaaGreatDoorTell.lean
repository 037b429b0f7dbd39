/- agg's takers: tell. -/
import Derived.Test.YthbjpoiolmlpmaaGreatDoorAgg
import Derived.Test.YthbjpoiolmlpmaaGreatDoorRng
import Derived.Test.YthbjpoiolmlpmaaGreatDoorRel
import Derived.Test.YthbjpoiolmlpmaaGreatDoorShelf
import Derived.Sort.OwnSortedInts
set_option linter.unusedVariables false
set_option linter.unusedSimpArgs false
namespace Go.Proofs.YthbjpoiolmlpmaaGreatDoor
open Go.RowKit
def sortI (l : List Int) : List Int := l.mergeSort fun x y => decide (x ≤ y)
def sortS (l : List ByteArray) : List ByteArray := ((l.map fun b => b.data.toList).mergeSort fun x y => decide (x ≤ y)).map fun l => ⟨l.toArray⟩
theorem sortI_len (l : List Int) : (sortI l).length = l.length := by simp [sortI]
theorem sortS_len (l : List ByteArray) : (sortS l).length = l.length := by simp [sortS]
theorem map_encStr (l : List ByteArray) : (l.map fun b => b.data.toList).map encStr = l.map Value.string := by
  rw [List.map_map]
  refine List.map_congr_left (fun b _ => ?_)
  simp [encStr]
theorem sortI_calls {w : World} {base : Nat} {v : Value} {xs : List Int} (h : w.ownsRow base 2 1 v xs.length (xs.map (Value.int .i64))) (hn : xs.length < 4611686018427387904) :
    Calls Tryz.prog 41 #[v] w fun e w' => e = .returned (.tuple #[]) ∧ w'.ownsRow base 2 1 v xs.length ((sortI xs).map (Value.int .i64)) ∧ Upd v.ownBlock.toList w w' := by
  rcases h.2 with ⟨rfl, h0⟩ | ⟨g, cap, cur, rfl, hb, hg, h1, h2, h3, h4⟩
  · obtain rfl : xs = [] := List.eq_nil_of_length_eq_zero h0
    refine (AnyM.slices_Sort_int_none Tryz.sortInt none 0 w).mono ?_
    rintro e w' ⟨rfl, rfl⟩
    exact ⟨rfl, by simpa [sortI] using h, Upd.refl _ _⟩
  · have hH := holds_of_blockI hg (by simpa using h4)
    refine (AnyM.slices_Sort_int Tryz.sortInt g 0 cap xs w hH (lt_of_block hg) hn).mono ?_
    rintro e w' ⟨rfl, n, os, rfl⟩
    exact ⟨rfl, ownsRow_sortedI (by simp [sortI]) hb hg h1 h2 h3, Upd.of_grownBy (grownBy_sortedI _)⟩
theorem sortS_calls {w : World} {base : Nat} {v : Value} {ms : List ByteArray} (h : w.ownsRow base 9 1 v ms.length (ms.map Value.string)) (hn : ms.length < 4611686018427387904) :
    Calls Tryz.prog 170 #[v] w fun e w' => e = .returned (.tuple #[]) ∧ w'.ownsRow base 9 1 v ms.length ((sortS ms).map Value.string) ∧ Upd v.ownBlock.toList w w' := by
  rcases h.2 with ⟨rfl, h0⟩ | ⟨g, cap, cur, rfl, hb, hg, h1, h2, h3, h4⟩
  · obtain rfl : ms = [] := List.eq_nil_of_length_eq_zero h0
    refine (AnyM.slices_Sort_string_none Tryz.sortStr none 0 w).mono ?_
    rintro e w' ⟨rfl, rfl⟩
    exact ⟨rfl, by simpa [sortS] using h, Upd.refl _ _⟩
  · have e0 := map_encStr ms
    have hl0 : (ms.map fun b => b.data.toList).length = ms.length := by simp
    have hH := holds_of_block (ss := ms.map fun b => b.data.toList) hg (by rw [e0, hl0]; simpa using h4)
    have hc := AnyM.slices_Sort_string Tryz.sortStr g 0 cap (ms.map fun b => b.data.toList) w hH (lt_of_block hg) (by rw [hl0]; exact hn)
    rw [hl0] at hc
    refine hc.mono ?_
    rintro e w' ⟨rfl, n, os, rfl⟩
    refine ⟨rfl, ?_, Upd.of_grownBy (grownBy_sorted _)⟩
    have hr := ownsRow_sorted (ts := (ms.map fun b => b.data.toList).mergeSort fun x y => decide (x ≤ y)) (ss := ms.map fun b => b.data.toList) (n := n) (os := os) (by simp) hb hg (by rw [hl0]; exact h1) h2 h3
    rw [hl0] at hr
    have e1 : (sortS ms).map Value.string = ((ms.map fun b => b.data.toList).mergeSort fun x y => decide (x ≤ y)).map encStr := by
      unfold sortS
      rw [List.map_map]
      rfl
    rw [e1]
    exact hr
abbrev TTal : TypeId := 54
def tallyC (k : Int) (nm : ByteArray) (n s wt : Int) (sv mv : Value) : List Value := [.int .i64 k, .string nm, .int .i64 n, .int .i64 (wh s), .int .u64 (wl s), .int .i64 (wh wt), .int .u64 (wl wt), sv, mv]
abbrev nilV : Value := .slice none 0 0
theorem wh0 : wh 0 = 0 := by decide
theorem wl0 : wl 0 = 0 := by decide
theorem cnt_tell (p : Nat) (n s b : Int) (w : World) (hB : HB w p TCnt [.int .i64 n, .int .i64 (wh s), .int .u64 (wl s)]) :
    Calls Tryz.prog 162 #[.pointer (some ⟨p, 0, none⟩), wide b] w fun x w' => x = .returned (.agg (tallyC 0 ⟨#[]⟩ n s 0 nilV nilV).toArray) ∧ Upd [] w w' := by
  unfold wide
  have HB0 := Lib.hid hB
  have hpl := hB.lt
  have hU := ((Upd.refl [] w).alloc (.cells #[.int .i64 (wh b), .int .u64 (wl b)] 39)).alloc (.cells #[.int .i64 0, .string ⟨#[]⟩, .int .i64 0, .int .i64 0, .int .u64 0, .int .i64 0, .int .u64 0, .slice none 0 0, .slice none 0 0] TTal)
  have HU := Lib.hid hU
  have hT := HB.new1 w (.cells #[.int .i64 (wh b), .int .u64 (wl b)] 39) TTal [.int .i64 0, .string ⟨#[]⟩, .int .i64 0, .int .i64 0, .int .u64 0, .int .i64 0, .int .u64 0, .slice none 0 0, .slice none 0 0]
  have HT := Lib.hid hT
  have HB1 := Lib.hid (hB.upd hU (by simp))
  clear hB hU hT
  go_enter Tryz.func162, Tryz.ntmps162
  go_wp2_with fail
  generalize hW0 : (w.alloc (.cells #[.int .i64 (wh b), .int .u64 (wl b)] 39)).alloc (.cells #[.int .i64 0, .string ⟨#[]⟩, .int .i64 0, .int .i64 0, .int .u64 0, .int .i64 0, .int .u64 0, .slice none 0 0, .slice none 0 0] TTal) = W0 at *
  clear hW0
  have c0 := fun q : Wd [] W0 => q.h.cell (HB1.out.cell (j := 0) rfl) (by simp)
  have c1 := fun q : Wd [] W0 => q.h.cell (HB1.out.cell (j := 1) rfl) (by simp)
  have c2 := fun q : Wd [] W0 => q.h.cell (HB1.out.cell (j := 2) rfl) (by simp)
  refine mix_start (n := 10) 9 (fun w' => ∃ p : Wd [] W0, w' = p.v) (by kernel_rfl) (by kernel_rfl) ?_
  refine mix_quiet [true, true, true, true, true, true, true, true, true] 1 rfl (by kernel_rfl) (by kernel_rfl) (by kernel_rfl) (by kernel_rfl) ⟨⟨_, (Upd.refl [] W0).drew⟩, rfl⟩ ?_
  simp only [maskL]
  repeat (go_big_quiet_step (fail))
  refine wpQuiet_nil ?_
  clear c0 c1 c2
  have hT0 := HT.out
  have t0 := hT0.cell (j := 0) rfl
  have f0 := hT0.free 0
  have t1 := hT0.cell (j := 1) rfl
  have f1 := hT0.free 1
  have t2 := hT0.cell (j := 2) rfl
  have f2 := hT0.free 2
  have t3 := hT0.cell (j := 3) rfl
  have f3 := hT0.free 3
  have t4 := hT0.cell (j := 4) rfl
  have f4 := hT0.free 4
  have t5 := hT0.cell (j := 5) rfl
  have f5 := hT0.free 5
  have t6 := hT0.cell (j := 6) rfl
  have f6 := hT0.free 6
  have t7 := hT0.cell (j := 7) rfl
  have f7 := hT0.free 7
  have t8 := hT0.cell (j := 8) rfl
  have f8 := hT0.free 8
  clear hT0
  refine mix_tail (by kernel_rfl) (by kernel_rfl) ?_
  simp only [List.drop_succ_cons, List.drop_zero]
  go_wp2
  refine bodyPost_ret (v := .agg (tallyC 0 ⟨#[]⟩ n s 0 nilV nilV).toArray) ?_ rfl ⟨rfl, ?_⟩
  · simp [results, Tryz.f162, go_sem, t0, t1, t2, t3, t4, t5, t6, t7, t8, tallyC, wh0, wl0]
  · repeat (first | with_reducible exact HU.out | with_reducible refine Upd.drew ?_ | (with_reducible refine Upd.setCell ?_ (.inr ?h) _; case h => (dsimp only; omega)))
set_option maxHeartbeats 2000000 in
theorem tim_tell (p base : Nat) (s sw b : Int) (xs : List Int) (sv : Value) (w : World) (hB : HB w p TTim [.int .i64 (wh s), .int .u64 (wl s), .int .i64 (wh sw), .int .u64 (wl sw), sv])
    (ho : w.ownsRow base 2 1 sv xs.length (xs.map (Value.int .i64))) (hn : xs.length ≤ 4194304) :
    Calls Tryz.prog 167 #[.pointer (some ⟨p, 0, none⟩), wide b] w fun x w' => x = .returned (.agg (tallyC 0 ⟨#[]⟩ xs.length s sw sv nilV).toArray) ∧ w'.ownsRow base 2 1 sv xs.length ((sortI xs).map (Value.int .i64)) ∧ Upd sv.ownBlock.toList w w' := by
  unfold wide
  obtain ⟨A, cA, rfl, _, _, _⟩ := own_shape ho
  have hpn := own_notin' ho hB (by decide)
  have HPN := Lib.hid hpn
  have hU := ((Upd.refl [] w).alloc (.cells #[.int .i64 (wh b), .int .u64 (wl b)] 39)).alloc (.cells #[.int .i64 0, .string ⟨#[]⟩, .int .i64 0, .int .i64 0, .int .u64 0, .int .i64 0, .int .u64 0, .slice none 0 0, .slice none 0 0] TTal)
  have HU := Lib.hid hU
  have hT := HB.new1 w (.cells #[.int .i64 (wh b), .int .u64 (wl b)] 39) TTal [.int .i64 0, .string ⟨#[]⟩, .int .i64 0, .int .i64 0, .int .u64 0, .int .i64 0, .int .u64 0, .slice none 0 0, .slice none 0 0]
  have HT := Lib.hid hT
  have HO1 := Lib.hid (own_upd ho hU (by simp))
  have HTN := Lib.hid (own_notin' HO1.out hT (by decide))
  have hB1 := hB.upd hU (by simp)
  have HB1 := Lib.hid hB1
  have hlt := hB.lt
  clear hU hT hB ho hpn
  go_enter Tryz.func167, Tryz.ntmps167
  have c4 := hB1.cell (j := 4) rfl
  clear hB1
  go_wp2_with fail
  generalize hW0 : (w.alloc (.cells #[.int .i64 (wh b), .int .u64 (wl b)] 39)).alloc (.cells #[.int .i64 0, .string ⟨#[]⟩, .int .i64 0, .int .i64 0, .int .u64 0, .int .i64 0, .int .u64 0, .slice none 0 0, .slice none 0 0] TTal) = W0 at *
  clear hW0 c4
  refine (sortI_calls HO1.out (by omega)).mono ?_
  rintro e w1 ⟨rfl, ho2, hU2⟩
  have HO2 := Lib.hid ho2
  have HB2 := Lib.hid (HB1.out.upd hU2 HPN.out)
  have HT2 := Lib.hid (HT.out.upd hU2 HTN.out)
  have HU2 := Lib.hid ((HU.out.of0 (S := (Value.slice A xs.length cA).ownBlock.toList)).then hU2)
  clear ho2 hU2 HO1 HB1 HT HU
  go_wp2_with fail
  have c0 := fun q : Wd [] w1 => q.h.cell (HB2.out.cell (j := 0) rfl) (by simp)
  have c1 := fun q : Wd [] w1 => q.h.cell (HB2.out.cell (j := 1) rfl) (by simp)
  have c2 := fun q : Wd [] w1 => q.h.cell (HB2.out.cell (j := 2) rfl) (by simp)
  have c3 := fun q : Wd [] w1 => q.h.cell (HB2.out.cell (j := 3) rfl) (by simp)
  have c4 := fun q : Wd [] w1 => q.h.cell (HB2.out.cell (j := 4) rfl) (by simp)
  refine mix_start (n := 19) 18 (fun w' => ∃ p : Wd [] w1, w' = p.v) (by kernel_rfl) (by kernel_rfl) ?_
  refine mix_quiet [true, true, true, true, true, true, true, true, true, true, true, true, true, true, true, true, true, true] 1 rfl (by kernel_rfl) (by kernel_rfl) (by kernel_rfl) (by kernel_rfl) ⟨⟨_, (Upd.refl [] w1).drew⟩, rfl⟩ ?_
  simp only [maskL]
  repeat (go_big_quiet_step (fail))
  refine wpQuiet_nil ?_
  clear c0 c1 c2 c3 c4
  have HKEY := Lib.hid (show ∀ W', Upd [w.heap.size + 1] w1 W' → (W'.ownsRow base 2 1 (.slice A xs.length cA) xs.length ((sortI xs).map (Value.int .i64)) ∧ Upd (Value.slice A xs.length cA).ownBlock.toList w W') from fun W' h =>
    ⟨own_upd HO2.out h (fun g hg hm => HTN.out (by simp at hm; subst hm; simp [hg])), HU2.out.trans h (fun _ h => h) (fun i hi => .inr (by simp at hi; omega))⟩)
  have hT0 := HT2.out
  have t0 := hT0.cell (j := 0) rfl
  have f0 := hT0.free 0
  have t1 := hT0.cell (j := 1) rfl
  have f1 := hT0.free 1
  have t2 := hT0.cell (j := 2) rfl
  have f2 := hT0.free 2
  have t3 := hT0.cell (j := 3) rfl
  have f3 := hT0.free 3
  have t4 := hT0.cell (j := 4) rfl
  have f4 := hT0.free 4
  have t5 := hT0.cell (j := 5) rfl
  have f5 := hT0.free 5
  have t6 := hT0.cell (j := 6) rfl
  have f6 := hT0.free 6
  have t7 := hT0.cell (j := 7) rfl
  have f7 := hT0.free 7
  have t8 := hT0.cell (j := 8) rfl
  have f8 := hT0.free 8
  clear hT0
  refine mix_tail (by kernel_rfl) (by kernel_rfl) ?_
  simp only [List.drop_succ_cons, List.drop_zero]
  go_wp2
  refine bodyPost_ret (v := .agg (tallyC 0 ⟨#[]⟩ xs.length s sw (.slice A xs.length cA) nilV).toArray) ?_ rfl ⟨rfl, HKEY.out _ ?_⟩
  · simp [results, Tryz.f167, go_sem, t0, t1, t2, t3, t4, t5, t6, t7, t8, tallyC]
  · repeat (first | with_reducible exact Upd.refl _ _ | with_reducible refine Upd.drew ?_ | (with_reducible refine Upd.setCell ?_ (.inl ?h) _; case h => simp))
def Blk (W0 W : World) (T : TypeId) (cs : List Value) (v : Value) : Prop := ∃ b, v = .pointer (some ⟨b, 0, none⟩) ∧ W0.heap.size ≤ b ∧ HB W b T cs
theorem Blk.upd0 {W0 W W' : World} {T : TypeId} {cs : List Value} {v : Value} (h : Blk W0 W T cs v) (hU : Upd [] W W') : Blk W0 W' T cs v := by
  obtain ⟨b, h1, h2, h3⟩ := h
  exact ⟨b, h1, h2, h3.upd hU (by simp)⟩
/-- Nine stores in a row. -/
def put9 (W : World) (b : Nat) (v0 v1 v2 v3 v4 v5 v6 v7 v8 : Value) : World :=
  ((((((((W.setCell ⟨b, 0, none⟩ v0).setCell ⟨b, 1, none⟩ v1).setCell ⟨b, 2, none⟩ v2).setCell ⟨b, 3, none⟩ v3).setCell ⟨b, 4, none⟩ v4).setCell ⟨b, 5, none⟩ v5).setCell ⟨b, 6, none⟩ v6).setCell ⟨b, 7, none⟩ v7).setCell ⟨b, 8, none⟩ v8
theorem put9_upd {S : List Nat} {a W : World} (h : Upd S a W) {b : Nat} (hb : b ∈ S ∨ a.heap.size ≤ b) (v0 v1 v2 v3 v4 v5 v6 v7 v8 : Value) : Upd S a (put9 W b v0 v1 v2 v3 v4 v5 v6 v7 v8) :=
  ((((((((h.setCell hb _).setCell hb _).setCell hb _).setCell hb _).setCell hb _).setCell hb _).setCell hb _).setCell hb _).setCell hb _
theorem put9_HB {W : World} {b : Nat} {T : TypeId} {u0 u1 u2 u3 u4 u5 u6 u7 u8 : Value} (h : HB W b T [u0, u1, u2, u3, u4, u5, u6, u7, u8]) (v0 v1 v2 v3 v4 v5 v6 v7 v8 : Value) : HB (put9 W b v0 v1 v2 v3 v4 v5 v6 v7 v8) b T [v0, v1, v2, v3, v4, v5, v6, v7, v8] :=
  ((((((((h.set 0 v0).set 1 v1).set 2 v2).set 3 v3).set 4 v4).set 5 v5).set 6 v6).set 7 v7).set 8 v8
def tal0 : List Value := [.int .i64 0, .string ⟨#[]⟩, .int .i64 0, .int .i64 0, .int .u64 0, .int .i64 0, .int .u64 0, .slice none 0 0, .slice none 0 0]
set_option maxHeartbeats 4000000 in
theorem gau_tell (p : Nat) (n v b : Int) (st : Bool) (w : World) (hB : HB w p TGau [.int .i64 n, .bool st, .int .i64 (wh v), .int .u64 (wl v)]) (hv : I128 v) (hb : I128 b) (hs : st = false → I128 (b + v)) :
    Calls Tryz.prog 165 #[.pointer (some ⟨p, 0, none⟩), wide b] w fun x w' => x = .returned (.agg (tallyC 0 ⟨#[]⟩ n (if st = true then v else b + v) 0 nilV nilV).toArray) ∧ Upd [] w w' := by
  have hU := ((Upd.refl [] w).alloc (.cells #[.int .i64 (wh b), .int .u64 (wl b)] 39)).alloc (.cells #[.int .i64 0, .string ⟨#[]⟩, .int .i64 0, .int .i64 0, .int .u64 0, .int .i64 0, .int .u64 0, .slice none 0 0, .slice none 0 0] TTal)
  have HU := Lib.hid hU
  have hT := HB.new1 w (.cells #[.int .i64 (wh b), .int .u64 (wl b)] 39) TTal [.int .i64 0, .string ⟨#[]⟩, .int .i64 0, .int .i64 0, .int .u64 0, .int .i64 0, .int .u64 0, .slice none 0 0, .slice none 0 0]
  have HT := Lib.hid hT
  have HW := Lib.hid ((HB.new w 39 [.int .i64 (wh b), .int .u64 (wl b)]).alloc (.cells #[.int .i64 0, .string ⟨#[]⟩, .int .i64 0, .int .i64 0, .int .u64 0, .int .i64 0, .int .u64 0, .slice none 0 0, .slice none 0 0] TTal))
  have HB1 := Lib.hid (hB.upd hU (by simp))
  have HADD := Lib.hid (fun W => add_calls b v hb hv W)
  have HSP := Lib.hid hs
  have hlt := hB.lt
  clear hU hT hB hs hb hv
  go_enter Tryz.func165, Tryz.ntmps165
  go_wp2_with fail
  obtain ⟨W0, hW0⟩ : ∃ W0, W0 = (w.alloc (.cells #[.int .i64 (wh b), .int .u64 (wl b)] 39)).alloc (.cells #[.int .i64 0, .string ⟨#[]⟩, .int .i64 0, .int .i64 0, .int .u64 0, .int .i64 0, .int .u64 0, .slice none 0 0, .slice none 0 0] TTal) := ⟨_, rfl⟩
  rw [← hW0] at HU HT HW HB1 ⊢
  have HSZ := Lib.hid (show W0.heap.size = w.heap.size + 2 by rw [hW0]; simp)
  clear hW0
  have hp2 : ∀ W, Upd [] W0 W → HB W p TGau [.int .i64 n, .bool st, .int .i64 (wh v), .int .u64 (wl v)] := fun W h => HB1.out.upd h (by simp)
  have HP2 := Lib.hid hp2
  clear hp2
  refine region_rel2 10 (by kernel_rfl) (by kernel_rfl) rfl (by kernel_rfl) (fun D aa W => ∃ x6 x7 x8 x9 x10 x11 x12 x13 x14 x5 : Value, aa = { tmps := #[.pointer (some ⟨p, 0, none⟩), wide b, undef, .pointer (some ⟨w.heap.size, 0, none⟩), .pointer (some ⟨w.heap.size + 1, 0, none⟩), x5, x6, x7, x8, x9, x10, x11, x12, x13, x14, undef, undef, undef, undef, undef, undef, undef, undef, undef, undef, undef, undef, undef, undef, undef, undef], defers := [] } ∧ Upd [] W0 W ∧ (D 0 = true → x6 = .pointer (some ⟨p, 0, none⟩)) ∧ (D 1 = true → x7 = .pointer (some ⟨p, 0, none⟩)) ∧ (D 2 = true → x8 = .pointer (some ⟨p, 0, none⟩)) ∧ (D 3 = true → x9 = .int .i64 n) ∧ (D 4 = true → x10 = .pointer (some ⟨p, 0, none⟩)) ∧ (D 5 = true → x11 = .pointer (some ⟨p, 0, none⟩)) ∧ (D 6 = true → x12 = .pointer (some ⟨p, 2, none⟩)) ∧ (D 7 = true → x13 = wide v) ∧ (D 8 = true → x14 = .agg #[.int .i64 0, .string ⟨#[]⟩, .int .i64 n, .int .i64 (wh v), .int .u64 (wl v), .int .i64 0, .int .u64 0, .slice none 0 0, .slice none 0 0]) ∧ (D 9 = true → Blk W0 W TTal tal0 x5)) ⟨_, _, _, _, _, _, _, _, _, _, rfl, (Upd.refl _ _).drew, (fun h => by cases h), (fun h => by cases h), (fun h => by cases h), (fun h => by cases h), (fun h => by cases h), (fun h => by cases h), (fun h => by cases h), (fun h => by cases h), (fun h => by cases h), (fun h => by cases h)⟩ ?_ ?_
  · rintro D aa W i o ⟨x6, x7, x8, x9, x10, x11, x12, x13, x14, x5, rfl, hU, h0, h1, h2, h3, h4, h5, h6, h7, h8, h9⟩ hi ho hDi hdep hcl
    match i with
    | 0 =>
      refine wpOp_via ho fun KK hK => ?_
      have HK := Lib.hid hK
      clear hK
      obtain rfl := Option.some.inj ho
      have HUW := Lib.hid hU
      clear hU
      go_wp2
      exact HK.out _ _ ⟨_, _, _, _, _, _, _, _, _, _, rfl, HUW.out, (fun _ => rfl), (by simpa using h1), (by simpa using h2), (by simpa using h3), (by simpa using h4), (by simpa using h5), (by simpa using h6), (by simpa using h7), (by simpa using h8), (fun h => h9 (by simpa using h))⟩
    | 1 =>
      refine wpOp_via ho fun KK hK => ?_
      have HK := Lib.hid hK
      clear hK
      obtain rfl := Option.some.inj ho
      obtain rfl := h0 (hdep ⟨0, .data⟩ (by simp) rfl)
      have HUW := Lib.hid hU
      clear hU
      go_wp2
      exact HK.out _ _ ⟨_, _, _, _, _, _, _, _, _, _, rfl, HUW.out, (fun _ => rfl), (fun _ => rfl), (by simpa using h2), (by simpa using h3), (by simpa using h4), (by simpa using h5), (by simpa using h6), (by simpa using h7), (by simpa using h8), (fun h => h9 (by simpa using h))⟩
    | 2 =>
      refine wpOp_via ho fun KK hK => ?_
      have HK := Lib.hid hK
      clear hK
      obtain rfl := Option.some.inj ho
      obtain rfl := h1 (hdep ⟨1, .data⟩ (by simp) rfl)
      have HUW := Lib.hid hU
      clear hU
      go_wp2
      exact HK.out _ _ ⟨_, _, _, _, _, _, _, _, _, _, rfl, HUW.out, (by simpa using h0), (fun _ => rfl), (fun _ => rfl), (by simpa using h3), (by simpa using h4), (by simpa using h5), (by simpa using h6), (by simpa using h7), (by simpa using h8), (fun h => h9 (by simpa using h))⟩
    | 3 =>
      refine wpOp_via ho fun KK hK => ?_
      have HK := Lib.hid hK
      clear hK
      obtain rfl := Option.some.inj ho
      obtain rfl := h2 (hdep ⟨2, .data⟩ (by simp) rfl)
      have HUW := Lib.hid hU
      clear hU
      have hs0 := HP2.out _ HUW.out
      have s0 := hs0.cell (j := 0) rfl
      clear hs0
      go_wp2
      exact HK.out _ _ ⟨_, _, _, _, _, _, _, _, _, _, rfl, HUW.out, (by simpa using h0), (by simpa using h1), (fun _ => rfl), (fun _ => rfl), (by simpa using h4), (by simpa using h5), (by simpa using h6), (by simpa using h7), (by simpa using h8), (fun h => h9 (by simpa using h))⟩
    | 4 =>
      refine wpOp_via ho fun KK hK => ?_
      have HK := Lib.hid hK
      clear hK
      obtain rfl := Option.some.inj ho
      have HUW := Lib.hid hU
      clear hU
      go_wp2
      exact HK.out _ _ ⟨_, _, _, _, _, _, _, _, _, _, rfl, HUW.out, (by simpa using h0), (by simpa using h1), (by simpa using h2), (by simpa using h3), (fun _ => rfl), (by simpa using h5), (by simpa using h6), (by simpa using h7), (by simpa using h8), (fun h => h9 (by simpa using h))⟩
    | 5 =>
      refine wpOp_via ho fun KK hK => ?_
      have HK := Lib.hid hK
      clear hK
      obtain rfl := Option.some.inj ho
      obtain rfl := h4 (hdep ⟨4, .data⟩ (by simp) rfl)
      have HUW := Lib.hid hU
      clear hU
      go_wp2
      exact HK.out _ _ ⟨_, _, _, _, _, _, _, _, _, _, rfl, HUW.out, (by simpa using h0), (by simpa using h1), (by simpa using h2), (by simpa using h3), (fun _ => rfl), (fun _ => rfl), (by simpa using h6), (by simpa using h7), (by simpa using h8), (fun h => h9 (by simpa using h))⟩
    | 6 =>
      refine wpOp_via ho fun KK hK => ?_
      have HK := Lib.hid hK
      clear hK
      obtain rfl := Option.some.inj ho
      obtain rfl := h5 (hdep ⟨5, .data⟩ (by simp) rfl)
      have HUW := Lib.hid hU
      clear hU
      go_wp2
      exact HK.out _ _ ⟨_, _, _, _, _, _, _, _, _, _, rfl, HUW.out, (by simpa using h0), (by simpa using h1), (by simpa using h2), (by simpa using h3), (by simpa using h4), (fun _ => rfl), (fun _ => rfl), (by simpa using h7), (by simpa using h8), (fun h => h9 (by simpa using h))⟩
    | 7 =>
      refine wpOp_via ho fun KK hK => ?_
      have HK := Lib.hid hK
      clear hK
      obtain rfl := Option.some.inj ho
      obtain rfl := h6 (hdep ⟨6, .data⟩ (by simp) rfl)
      have HUW := Lib.hid hU
      clear hU
      have hs0 := HP2.out _ HUW.out
      have s2 := hs0.cell (j := 2) rfl
      have s3 := hs0.cell (j := 3) rfl
      clear hs0
      go_wp2
      exact HK.out _ _ ⟨_, _, _, _, _, _, _, _, _, _, rfl, HUW.out, (by simpa using h0), (by simpa using h1), (by simpa using h2), (by simpa using h3), (by simpa using h4), (by simpa using h5), (fun _ => rfl), (fun _ => rfl), (by simpa using h8), (fun h => h9 (by simpa using h))⟩
    | 8 =>
      refine wpOp_via ho fun KK hK => ?_
      have HK := Lib.hid hK
      clear hK
      obtain rfl := Option.some.inj ho
      obtain rfl := h3 (hdep ⟨3, .data⟩ (by simp) rfl)
      obtain rfl := h7 (hdep ⟨7, .data⟩ (by simp) rfl)
      have HUW := Lib.hid hU
      clear hU
      go_wp2
      exact HK.out _ _ ⟨_, _, _, _, _, _, _, _, _, _, rfl, HUW.out, (by simpa using h0), (by simpa using h1), (by simpa using h2), (fun _ => rfl), (by simpa using h4), (by simpa using h5), (by simpa using h6), (fun _ => rfl), (fun _ => rfl), (fun h => h9 (by simpa using h))⟩
    | 9 =>
      refine wpOp_via ho fun KK hK => ?_
      have HK := Lib.hid hK
      clear hK
      obtain rfl := Option.some.inj ho
      have HUW := Lib.hid hU
      clear hU
      have hx : Blk W0 (W.alloc (.cells tal0.toArray TTal)) TTal tal0 (.pointer (some ⟨W.heap.size, 0, none⟩)) := ⟨_, rfl, HUW.out.size, HB.new W _ _⟩
      have hU1 := (Upd.refl [] W).alloc (.cells tal0.toArray TTal)
      go_wp2
      exact HK.out _ _ ⟨_, _, _, _, _, _, _, _, _, _, rfl, HUW.out.then hU1, (by simpa using h0), (by simpa using h1), (by simpa using h2), (by simpa using h3), (by simpa using h4), (by simpa using h5), (by simpa using h6), (by simpa using h7), (by simpa using h8), (fun _ => hx)⟩
    | i + 10 => omega
  · rintro D aa W o ⟨x6, x7, x8, x9, x10, x11, x12, x13, x14, x5, rfl, hU, h0, h1, h2, h3, h4, h5, h6, h7, h8, h9⟩ hall ho
    refine wpOp_of_list ho ?_
    obtain rfl := Option.some.inj ho
    obtain rfl := h0 (hall 0 (by omega))
    obtain rfl := h1 (hall 1 (by omega))
    obtain rfl := h2 (hall 2 (by omega))
    obtain rfl := h3 (hall 3 (by omega))
    obtain rfl := h4 (hall 4 (by omega))
    obtain rfl := h5 (hall 5 (by omega))
    obtain rfl := h6 (hall 6 (by omega))
    obtain rfl := h7 (hall 7 (by omega))
    obtain rfl := h8 (hall 8 (by omega))
    have r9 := h9 (hall 9 (by omega))
    obtain ⟨b4, e1, hb1, hb2⟩ := r9
    obtain rfl := e1
    have hn1 : ¬ (p = b4) := by have := HSZ.out; omega
    have hn2 : ¬ (b4 = p) := fun e => hn1 e.symm
    have hn3 : ¬ (w.heap.size + 1 = b4) := by have := HSZ.out; omega
    have hn4 : ¬ (b4 = w.heap.size + 1) := fun e => hn3 e.symm
    have hpc := (HP2.out _ hU).cell (j := 1) rfl
    unfold tal0 at hb2
    have t0 := hb2.cell (j := 0) rfl
    have f0 := hb2.free 0
    have t1 := hb2.cell (j := 1) rfl
    have f1 := hb2.free 1
    have t2 := hb2.cell (j := 2) rfl
    have f2 := hb2.free 2
    have t3 := hb2.cell (j := 3) rfl
    have f3 := hb2.free 3
    have t4 := hb2.cell (j := 4) rfl
    have f4 := hb2.free 4
    have t5 := hb2.cell (j := 5) rfl
    have f5 := hb2.free 5
    have t6 := hb2.cell (j := 6) rfl
    have f6 := hb2.free 6
    have t7 := hb2.cell (j := 7) rfl
    have f7 := hb2.free 7
    have t8 := hb2.cell (j := 8) rfl
    have f8 := hb2.free 8
    have HU5 := Lib.hid hU
    have HB5 := Lib.hid hb2
    have HT5 := Lib.hid (HT.out.upd hU (by simp))
    have HW5 := Lib.hid (HW.out.upd hU (by simp))
    have HP5 := Lib.hid (HP2.out _ hU)
    clear hU hb2 HT HW HB1 HP2
    have hb0 : w.heap.size ≤ b4 := by have := HSZ.out; omega
    have HUZ := Lib.hid (HU.out.then HU5.out)
    cases st
    · have HADD := HADD.out
      rw [wres_in (HSP.out rfl)] at HADD
      dsimp only at HADD
      have HADD := Lib.hid HADD
      clear HU5 HU
      unfold wide
      go_wp2_with fail
      clear t0 t1 t2 t3 t4 t5 t6 t7 t8 f0 f1 f2 f3 f4 f5 f6 f7 f8 hpc
      obtain ⟨W5, hW5⟩ : ∃ W5, W5 = put9 W b4 (.int .i64 0) (.string ⟨#[]⟩) (.int .i64 n) (.int .i64 (wh v)) (.int .u64 (wl v)) (.int .i64 0) (.int .u64 0) (.slice none 0 0) (.slice none 0 0) := ⟨_, rfl⟩
      show Code.wp Tryz.prog _ _ _ (put9 W b4 (.int .i64 0) (.string ⟨#[]⟩) (.int .i64 n) (.int .i64 (wh v)) (.int .u64 (wl v)) (.int .i64 0) (.int .u64 0) (.slice none 0 0) (.slice none 0 0))
      have hbu := put9_upd (b := b4) (Upd.refl [b4] W) (.inl (by simp)) (.int .i64 0) (.string ⟨#[]⟩) (.int .i64 n) (.int .i64 (wh v)) (.int .u64 (wl v)) (.int .i64 0) (.int .u64 0) (.slice none 0 0) (.slice none 0 0)
      have HB6 := Lib.hid (put9_HB HB5.out (.int .i64 0) (.string ⟨#[]⟩) (.int .i64 n) (.int .i64 (wh v)) (.int .u64 (wl v)) (.int .i64 0) (.int .u64 0) (.slice none 0 0) (.slice none 0 0))
      rw [← hW5] at hbu HB6 ⊢
      clear hW5
      have hnp5 : p ∉ [b4] := by simpa using hn1
      have hne5 : w.heap.size ∉ [b4] := by have := HSZ.out; simp; omega
      have HT6 := Lib.hid (HT5.out.upd hbu (by simpa using hn3))
      have HW6 := Lib.hid (HW5.out.upd hbu hne5)
      have HP6 := Lib.hid (HP5.out.upd hbu (by simpa using hn1))
      have HU6 := Lib.hid (HUZ.out.trans hbu (fun _ h => h) (fun i hi => .inr (by simp at hi; omega)))
      clear HT5 HW5 HP5 HB5 HUZ hbu
      have c0 := fun q : Wd [b4] W5 => q.h.cell (HW6.out.cell (j := 0) rfl) hne5
      have c1 := fun q : Wd [b4] W5 => q.h.cell (HW6.out.cell (j := 1) rfl) hne5
      have c2 := fun q : Wd [b4] W5 => q.h.cell (HP6.out.cell (j := 2) rfl) hnp5
      have c3 := fun q : Wd [b4] W5 => q.h.cell (HP6.out.cell (j := 3) rfl) hnp5
      refine mix_start (n := 11) 11 (fun w' => ∃ p : Wd [b4] W5, w' = p.v) (by kernel_rfl) (by kernel_rfl) ?_
      refine mix_quiet [true, true, true, true, true] 6 rfl (by kernel_rfl) (by kernel_rfl) (by kernel_rfl) (by kernel_rfl) ⟨⟨_, (Upd.refl [b4] W5).drew⟩, rfl⟩ ?_
      simp only [maskL]
      repeat (go_big_quiet_step (fail))
      refine wpQuiet_nil ?_
      clear c0 c1 c2 c3
      refine mix_one 5 (by kernel_rfl) (by kernel_rfl) rfl ?_
      intro K QF hK
      go_wp2_with fail
      refine (HADD.out _).mono ?_
      rintro e w6 ⟨rfl, hU6⟩
      have HU7 := Lib.hid ((Upd.refl [] W5).drew.then hU6)
      clear hU6
      go_wp2_with fail
      refine hK _ _ ⟨⟨_, HU7.out.of0⟩, rfl⟩ ?_
      clear hK K QF
      have HB7 := Lib.hid (HB6.out.upd HU7.out (by simp))
      have HT7 := Lib.hid (HT6.out.upd HU7.out (by simp))
      clear HB6 HT6
      have t0 := HB7.out.cell (j := 0) rfl
      have f0 := HB7.out.free 0
      have t1 := HB7.out.cell (j := 1) rfl
      have f1 := HB7.out.free 1
      have t2 := HB7.out.cell (j := 2) rfl
      have f2 := HB7.out.free 2
      have t3 := HB7.out.cell (j := 3) rfl
      have f3 := HB7.out.free 3
      have t4 := HB7.out.cell (j := 4) rfl
      have f4 := HB7.out.free 4
      have t5 := HB7.out.cell (j := 5) rfl
      have f5 := HB7.out.free 5
      have t6 := HB7.out.cell (j := 6) rfl
      have f6 := HB7.out.free 6
      have t7 := HB7.out.cell (j := 7) rfl
      have f7 := HB7.out.free 7
      have t8 := HB7.out.cell (j := 8) rfl
      have f8 := HB7.out.free 8
      have u0 := HT7.out.cell (j := 0) rfl
      have v0 := HT7.out.free 0
      have u1 := HT7.out.cell (j := 1) rfl
      have v1 := HT7.out.free 1
      have u2 := HT7.out.cell (j := 2) rfl
      have v2 := HT7.out.free 2
      have u3 := HT7.out.cell (j := 3) rfl
      have v3 := HT7.out.free 3
      have u4 := HT7.out.cell (j := 4) rfl
      have v4 := HT7.out.free 4
      have u5 := HT7.out.cell (j := 5) rfl
      have v5 := HT7.out.free 5
      have u6 := HT7.out.cell (j := 6) rfl
      have v6 := HT7.out.free 6
      have u7 := HT7.out.cell (j := 7) rfl
      have v7 := HT7.out.free 7
      have u8 := HT7.out.cell (j := 8) rfl
      have v8 := HT7.out.free 8
      have HU8 := Lib.hid (HU6.out.then HU7.out)
      unfold wide
      refine mix_one 6 (by kernel_rfl) (by kernel_rfl) rfl ?_
      intro K QF hK
      go_wp2_with fail
      refine hK _ _ ⟨⟨_, HU7.out.of0⟩, rfl⟩ ?_
      clear hK K QF
      refine mix_two 7 8 (by kernel_rfl) (by kernel_rfl) (by kernel_rfl) rfl rfl ?_ ?_
      · intro K QF hK
        go_wp2_with fail
        refine hK _ _ ⟨⟨_, HU7.out.of0⟩, rfl⟩ ?_
        clear hK K QF
        refine mix_two 8 9 (by kernel_rfl) (by kernel_rfl) (by kernel_rfl) rfl rfl ?_ ?_
        · intro K QF hK
          go_wp2_with fail
          refine hK _ _ ⟨⟨_, HU7.out.of0⟩, rfl⟩ ?_
          clear hK K QF
          refine mix_one 9 (by kernel_rfl) (by kernel_rfl) rfl ?_
          intro K QF hK
          go_wp2_with fail
          refine hK _ _ ⟨⟨_, HU7.out.of0⟩, rfl⟩ ?_
          clear hK K QF
          refine mix_one 10 (by kernel_rfl) (by kernel_rfl) rfl ?_
          intro K QF hK
          go_wp2_with fail
          refine hK _ _ ⟨⟨_, (HU7.out.of0.setCell (p := ⟨b4, 3, none⟩) (.inl (by simp)) _).setCell (p := ⟨b4, 4, none⟩) (.inl (by simp)) _⟩, rfl⟩ ?_
          clear hK K QF
          refine mix_end (by kernel_rfl) ?_
          go_wp2_with fail
          refine bodyPost_ret (v := .agg (tallyC 0 ⟨#[]⟩ n (b + v) 0 nilV nilV).toArray) ?_ rfl ⟨rfl, ?_⟩
          · simp [results, Tryz.f165, go_sem, t0, t1, t2, t3, t4, t5, t6, t7, t8, u0, u1, u2, u3, u4, u5, u6, u7, u8, hn3, hn4, tallyC, wh0, wl0]
          · repeat (first | with_reducible exact HU8.out | with_reducible refine Upd.drew ?_ | (with_reducible refine Upd.setCell ?_ (.inr ?h) _; case h => (dsimp only; omega)))
        · intro K QF hK
          go_wp2_with fail
          refine hK _ _ ⟨⟨_, HU7.out.of0⟩, rfl⟩ ?_
          clear hK K QF
          refine mix_two 8 10 (by kernel_rfl) (by kernel_rfl) (by kernel_rfl) rfl rfl ?_ ?_
          · intro K QF hK
            go_wp2_with fail
            refine hK _ _ ⟨⟨_, HU7.out.of0⟩, rfl⟩ ?_
            clear hK K QF
            refine mix_one 10 (by kernel_rfl) (by kernel_rfl) rfl ?_
            intro K QF hK
            go_wp2_with fail
            refine hK _ _ ⟨⟨_, (HU7.out.of0.setCell (p := ⟨b4, 3, none⟩) (.inl (by simp)) _).setCell (p := ⟨b4, 4, none⟩) (.inl (by simp)) _⟩, rfl⟩ ?_
            clear hK K QF
            refine mix_end (by kernel_rfl) ?_
            go_wp2_with fail
            refine bodyPost_ret (v := .agg (tallyC 0 ⟨#[]⟩ n (b + v) 0 nilV nilV).toArray) ?_ rfl ⟨rfl, ?_⟩
            · simp [results, Tryz.f165, go_sem, t0, t1, t2, t3, t4, t5, t6, t7, t8, u0, u1, u2, u3, u4, u5, u6, u7, u8, hn3, hn4, tallyC, wh0, wl0]
            · repeat (first | with_reducible exact HU8.out | with_reducible refine Upd.drew ?_ | (with_reducible refine Upd.setCell ?_ (.inr ?h) _; case h => (dsimp only; omega)))
          · intro K QF hK
            go_wp2_with fail
            refine hK _ _ ⟨⟨_, (HU7.out.of0.setCell (p := ⟨b4, 3, none⟩) (.inl (by simp)) _).setCell (p := ⟨b4, 4, none⟩) (.inl (by simp)) _⟩, rfl⟩ ?_
            clear hK K QF
            refine mix_one 8 (by kernel_rfl) (by kernel_rfl) rfl ?_
            intro K QF hK
            go_wp2_with fail
            refine hK _ _ ⟨⟨_, (HU7.out.of0.setCell (p := ⟨b4, 3, none⟩) (.inl (by simp)) _).setCell (p := ⟨b4, 4, none⟩) (.inl (by simp)) _⟩, rfl⟩ ?_
            clear hK K QF
            refine mix_end (by kernel_rfl) ?_
            go_wp2_with fail
            refine bodyPost_ret (v := .agg (tallyC 0 ⟨#[]⟩ n (b + v) 0 nilV nilV).toArray) ?_ rfl ⟨rfl, ?_⟩
            · simp [results, Tryz.f165, go_sem, t0, t1, t2, t3, t4, t5, t6, t7, t8, u0, u1, u2, u3, u4, u5, u6, u7, u8, hn3, hn4, tallyC, wh0, wl0]
            · repeat (first | with_reducible exact HU8.out | with_reducible refine Upd.drew ?_ | (with_reducible refine Upd.setCell ?_ (.inr ?h) _; case h => (dsimp only; omega)))
      · intro K QF hK
        go_wp2_with fail
        refine hK _ _ ⟨⟨_, HU7.out.of0⟩, rfl⟩ ?_
        clear hK K QF
        refine mix_one 7 (by kernel_rfl) (by kernel_rfl) rfl ?_
        intro K QF hK
        go_wp2_with fail
        refine hK _ _ ⟨⟨_, HU7.out.of0⟩, rfl⟩ ?_
        clear hK K QF
        refine mix_one 9 (by kernel_rfl) (by kernel_rfl) rfl ?_
        intro K QF hK
        go_wp2_with fail
        refine hK _ _ ⟨⟨_, HU7.out.of0⟩, rfl⟩ ?_
        clear hK K QF
        refine mix_one 10 (by kernel_rfl) (by kernel_rfl) rfl ?_
        intro K QF hK
        go_wp2_with fail
        refine hK _ _ ⟨⟨_, (HU7.out.of0.setCell (p := ⟨b4, 3, none⟩) (.inl (by simp)) _).setCell (p := ⟨b4, 4, none⟩) (.inl (by simp)) _⟩, rfl⟩ ?_
        clear hK K QF
        refine mix_end (by kernel_rfl) ?_
        go_wp2_with fail
        refine bodyPost_ret (v := .agg (tallyC 0 ⟨#[]⟩ n (b + v) 0 nilV nilV).toArray) ?_ rfl ⟨rfl, ?_⟩
        · simp [results, Tryz.f165, go_sem, t0, t1, t2, t3, t4, t5, t6, t7, t8, u0, u1, u2, u3, u4, u5, u6, u7, u8, hn3, hn4, tallyC, wh0, wl0]
        · repeat (first | with_reducible exact HU8.out | with_reducible refine Upd.drew ?_ | (with_reducible refine Upd.setCell ?_ (.inr ?h) _; case h => (dsimp only; omega)))
    · unfold wide
      have u0 := HT5.out.cell (j := 0) rfl
      have v0 := HT5.out.free 0
      have u1 := HT5.out.cell (j := 1) rfl
      have v1 := HT5.out.free 1
      have u2 := HT5.out.cell (j := 2) rfl
      have v2 := HT5.out.free 2
      have u3 := HT5.out.cell (j := 3) rfl
      have v3 := HT5.out.free 3
      have u4 := HT5.out.cell (j := 4) rfl
      have v4 := HT5.out.free 4
      have u5 := HT5.out.cell (j := 5) rfl
      have v5 := HT5.out.free 5
      have u6 := HT5.out.cell (j := 6) rfl
      have v6 := HT5.out.free 6
      have u7 := HT5.out.cell (j := 7) rfl
      have v7 := HT5.out.free 7
      have u8 := HT5.out.cell (j := 8) rfl
      have v8 := HT5.out.free 8
      go_wp2_with fail
      refine bodyPost_ret (v := .agg (tallyC 0 ⟨#[]⟩ n v 0 nilV nilV).toArray) ?_ rfl ⟨rfl, ?_⟩
      · simp [results, Tryz.f165, go_sem, u0, u1, u2, u3, u4, u5, u6, u7, u8, hn3, hn4, tallyC, wh0, wl0]
      · repeat (first | with_reducible exact HUZ.out | with_reducible refine Upd.drew ?_ | (with_reducible refine Upd.setCell ?_ (.inr ?h) _; case h => (dsimp only; omega)))
end Go.Proofs.YthbjpoiolmlpmaaGreatDoor
