/- agg's takers: tell of a set. -/
import Derived.Test.YthbjpoiolmlpmaaGreatDoorTell
import Derived.Maps.Range
import Derived.Laws.MakeOwn
set_option linter.unusedVariables false
set_option linter.unusedSimpArgs false
namespace Go.Proofs.YthbjpoiolmlpmaaGreatDoor
open Go.RowKit
theorem mk_strs (n : Nat) (hn : n ≤ 4194304) (W : World) : (Instr.makeSlice 52 (.int .i64 0) (.int .i64 (n : Int))).run Tryz.prog W = .ok (.slice (some ⟨W.heap.size, 0, none⟩) 0 n) (W.alloc (.cells (madeCells #[.string ⟨#[]⟩] n) 9)) := by
  obtain ⟨i, hi, hzz⟩ := Option.map_eq_some_iff.1 infoS
  simp only [Prod.mk.injEq] at hzz
  obtain ⟨hz, hs, hb⟩ := hzz
  have h := run_make (P := Tryz.prog) W 52 9 i _ (by kernel_rfl) hi hz .i64 .i64 0 n (by omega) (by omega) (by rw [hb]; omega) (by omega)
  rw [hs] at h
  simp only [Int.toNat_natCast, Nat.mul_one] at h
  exact h
theorem RngAt.left_eq {κ : Type} {kv : κ → Value} {w : World} {b r : Nat} {m left : List (κ × Value)} (h : RngAt w kv b r m left) : w.rangeLeft b r = left.length := by
  obtain ⟨es, clock, since, seen, c0, h1, h2, h3, h4, h5, h6, h7, h8, h9, h10⟩ := h
  have := congrArg List.length h10
  simp only [World.rangeLeft, h1, h6]
  simpa using this
theorem Upd.low {S : List Nat} {w w0 w' : World} (h0 : Upd [] w w0) (h : Upd S w0 w') (hS : ∀ i ∈ S, w.heap.size ≤ i) : Upd [] w w' := h0.trans h (fun _ h => h) (fun i hi => .inr (hS i hi))
theorem own_ne_rng {κ : Type} {kv : κ → Value} {w : World} {base size n b r : Nat} {e : TypeId} {v : Value} {xs : List Value} {m left : List (κ × Value)} (h : w.ownsRow base e size v n xs) (hr : RngAt w kv b r m left) : b ∉ v.ownBlock.toList ∧ r ∉ v.ownBlock.toList := by
  rcases h.2 with ⟨rfl, _⟩ | ⟨g, cap, cur, rfl, _, hg, _⟩
  · exact ⟨by simp [Value.ownBlock], by simp [Value.ownBlock]⟩
  · obtain ⟨es, clock, since, seen, c0, h1, _, _, _, _, h6, _⟩ := hr
    constructor
    · intro hm
      have : b = g := by simpa [Value.ownBlock] using hm
      rw [this, hg] at h1
      cases h1
    · intro hm
      have : r = g := by simpa [Value.ownBlock] using hm
      rw [this, hg] at h6
      cases h6
theorem own_low {w : World} {base size n : Nat} {e : TypeId} {v : Value} {xs : List Value} (h : w.ownsRow base e size v n xs) : ∀ i ∈ v.ownBlock.toList, base ≤ i := fun i hi => (h.lt i (by simpa using hi)).1
theorem map_app {α β : Type} (f : α → β) {l : List α} {a c : List β} {y : β} (h : l.map f = a ++ y :: c) : ∃ l1 x l2, l = l1 ++ x :: l2 ∧ l1.map f = a ∧ f x = y ∧ l2.map f = c := by
  obtain ⟨l1, l2, rfl, h1, h2⟩ := List.map_eq_append_iff.1 h
  obtain ⟨x, l3, rfl, h3, h4⟩ := List.map_eq_cons_iff.1 h2
  exact ⟨l1, x, l3, rfl, h1, h3, h4⟩
theorem sortS_perm {a b : List ByteArray} (h : a.Perm b) : sortS a = sortS b := by
  unfold sortS
  congr 1
  have hp : ((a.map fun b => b.data.toList).mergeSort fun x y => decide (x ≤ y)).Perm ((b.map fun b => b.data.toList).mergeSort fun x y => decide (x ≤ y)) := (List.mergeSort_perm _ _).trans ((h.map _).trans (List.mergeSort_perm _ _).symm)
  have hs : ∀ l : List (List UInt8), (l.mergeSort fun x y => decide (x ≤ y)).Pairwise fun x y => x ≤ y := fun l => by
    have := List.pairwise_mergeSort (le := fun x y : List UInt8 => decide (x ≤ y)) (fun a b c h1 h2 => by simp at *; exact List.le_trans h1 h2) (fun a b => by simpa using List.le_total a b) l
    simpa using this
  exact hp.eq_of_pairwise (fun x y _ _ h1 h2 => List.le_antisymm h1 h2) (hs _) (hs _)
theorem sortI_perm {a b : List Int} (h : a.Perm b) : sortI a = sortI b := by
  unfold sortI
  have hp : (a.mergeSort fun x y => decide (x ≤ y)).Perm (b.mergeSort fun x y => decide (x ≤ y)) := (List.mergeSort_perm _ _).trans (h.trans (List.mergeSort_perm _ _).symm)
  have hs : ∀ l : List Int, (l.mergeSort fun x y => decide (x ≤ y)).Pairwise fun x y => x ≤ y := fun l => by
    have := List.pairwise_mergeSort (le := fun x y : Int => decide (x ≤ y)) (fun a b c h1 h2 => by simp at *; omega) (fun a b => by simp; omega) l
    simpa using this
  exact hp.eq_of_pairwise (fun x y _ _ h1 h2 => Int.le_antisymm h1 h2) (hs _) (hs _)
set_option maxHeartbeats 4000000 in
set_option maxRecDepth 20000 in
theorem set_tell (p m : Nat) (n b : Int) (ms : List ByteArray) (w : World) (hB : HB w p TSet [.int .i64 n, .map (some m)]) (hM : MapAt w Value.string m (ms.map kvU)) (hn : ms.length ≤ 4194304) :
    Calls Tryz.prog 169 #[.pointer (some ⟨p, 0, none⟩), wide b] w fun x w' => ∃ mv, x = .returned (.agg (tallyC 0 ⟨#[]⟩ n 0 0 nilV mv).toArray) ∧ w'.ownsRow w.heap.size 9 1 mv ms.length ((sortS ms).map Value.string) ∧ Upd [] w w' := by
  have hpm : p ≠ m := fun h => by
    subst h
    obtain ⟨es, ck, h1, _⟩ := hM
    unfold HB at hB
    rw [hB] at h1
    cases h1
  unfold wide
  have hU := ((Upd.refl [] w).alloc (.cells #[.int .i64 (wh b), .int .u64 (wl b)] 39)).alloc (.cells #[.int .i64 0, .string ⟨#[]⟩, .int .i64 0, .int .i64 0, .int .u64 0, .int .i64 0, .int .u64 0, .slice none 0 0, .slice none 0 0] TTal)
  have HU := Lib.hid hU
  have HT := Lib.hid (HB.new1 w (.cells #[.int .i64 (wh b), .int .u64 (wl b)] 39) TTal [.int .i64 0, .string ⟨#[]⟩, .int .i64 0, .int .i64 0, .int .u64 0, .int .i64 0, .int .u64 0, .slice none 0 0, .slice none 0 0])
  have HB1 := Lib.hid (hB.upd hU (by simp))
  have HM1 := Lib.hid (hM.upd hU (by simp))
  have hlt := hB.lt
  have hmlt := hM.lt
  clear hU hB hM
  go_enter Tryz.func169, Tryz.ntmps169
  have HMK := Lib.hid (mk_strs ms.length hn)
  have hmk := HMK.out
  have c1 := HB1.out.cell (j := 1) rfl
  have hlen := run_len (P := Tryz.prog) Tryz.underlying126 HM1.out 3
  rw [List.length_map] at hlen
  have hU2 := HU.out.alloc (.cells (madeCells #[.string ⟨#[]⟩] ms.length) 9)
  have hl := World.ownsRow_made (((w.alloc (.cells #[.int .i64 (wh b), .int .u64 (wl b)] 39)).alloc (.cells #[.int .i64 0, .string ⟨#[]⟩, .int .i64 0, .int .i64 0, .int .u64 0, .int .i64 0, .int .u64 0, .slice none 0 0, .slice none 0 0] TTal))) (base := w.heap.size) (e := 9) (size := 1) (madeCells #[.string ⟨#[]⟩] ms.length) ms.length (by simp; omega) (by unfold maxLen; omega) (by simp [size_madeCells])
  have HL := Lib.hid hl
  have c2 := (HB1.out.alloc (.cells (madeCells #[.string ⟨#[]⟩] ms.length) 9)).cell (j := 1) rfl
  have HB2 := Lib.hid (HB1.out.alloc (.cells (madeCells #[.string ⟨#[]⟩] ms.length) 9))
  have HT2 := Lib.hid (HT.out.alloc (.cells (madeCells #[.string ⟨#[]⟩] ms.length) 9))
  obtain ⟨W2, hrun, hR, hU3, hs3⟩ := run_range (P := Tryz.prog) Tryz.underlying126 (HM1.out.upd ((Upd.refl [] _).alloc (.cells (madeCells #[.string ⟨#[]⟩] ms.length) 9)) (by simp))
  have HR := Lib.hid hR
  have HU2 := Lib.hid (hU2.then hU3)
  have HU3 := Lib.hid hU3
  clear hl hU2 hR hU3
  go_wp2_with fail
  have er : ((((w.alloc (.cells #[.int .i64 (wh b), .int .u64 (wl b)] 39)).alloc (.cells #[.int .i64 0, .string ⟨#[]⟩, .int .i64 0, .int .i64 0, .int .u64 0, .int .i64 0, .int .u64 0, .slice none 0 0, .slice none 0 0] TTal))).alloc (.cells (madeCells #[.string ⟨#[]⟩] ms.length) 9)).heap.size = w.heap.size + 1 + 1 + 1 := by simp
  have hR2 := HR.out
  rw [er] at hR2
  have HR2 := Lib.hid hR2
  have HL3 := Lib.hid (own_upd HL.out HU3.out (by simp))
  have HB3 := Lib.hid (HB2.out.upd HU3.out (by simp))
  have HT3 := Lib.hid (HT2.out.upd HU3.out (by simp))
  clear hR2 hrun hs3 er HR HL HB2 HT2 HU3 c1 c2 hmk hlen HB1 HM1 HMK HU HT
  go_loopw [5] (fun va wr => ∃ done left : List ByteArray, (done ++ left).Perm ms ∧ RngAt wr Value.string m (w.heap.size + 1 + 1 + 1) (ms.map kvU) (left.map kvU) ∧ wr.ownsRow w.heap.size 9 1 va done.length (done.map Value.string) ∧ HB wr p TSet [.int .i64 n, .map (some m)] ∧ HB wr (w.heap.size + 1) TTal [.int .i64 0, .string ⟨#[]⟩, .int .i64 0, .int .i64 0, .int .u64 0, .int .i64 0, .int .u64 0, .slice none 0 0, .slice none 0 0] ∧ Upd [] w wr) (fun _ wr => wr.rangeLeft m (w.heap.size + 1 + 1 + 1))
  case atStart => exact ⟨[], ms, .refl _, HR2.out, by simpa using HL3.out, HB3.out, HT3.out, HU2.out⟩
  case round =>
    obtain ⟨done, left, hpm, hrg, hown, hb, ht, hU⟩ := hrel
    have HRG := Lib.hid hrg
    have HO := Lib.hid hown
    have HB4 := Lib.hid hb
    have HT4 := Lib.hid ht
    have HU4 := Lib.hid hU
    have HPM := Lib.hid hpm
    clear hrg hown hb ht hU hpm HR2 HL3 HB3 HT3
    rcases RngAt.next (P := Tryz.prog) HRG.out 0 with ⟨hnil, hnx⟩ | ⟨m1, k, v, m2, w5, hsp, hnx, hR5, hU5, hent⟩
    · obtain rfl : left = [] := by simpa using hnil
      rw [List.append_nil] at HPM
      have hnx := hnx
      obtain ⟨A, cA, rfl, _, _, _⟩ := own_shape HO.out
      have hdl := HPM.out.length_eq
      have hx : done.length < 4611686018427387904 := by omega
      have HDL := Lib.hid hdl
      have HX := Lib.hid hx
      clear hdl hx
      have HTO := Lib.hid (own_notin' HO.out HT4.out (by decide))
      have HPO := Lib.hid (own_notin' HO.out HB4.out (by decide))
      have HLO := Lib.hid (own_low HO.out)
      clear HRG hnil
      go_wp2_with fail
      refine (sortS_calls HO.out HX.out).mono ?_
      rintro e w6 ⟨rfl, ho6, hU6⟩
      rw [sortS_perm HPM.out] at ho6
      have HO6 := Lib.hid ho6
      have HT6 := Lib.hid (HT4.out.upd hU6 HTO.out)
      have HB6 := Lib.hid (HB4.out.upd hU6 HPO.out)
      have HU6 := Lib.hid (Upd.low HU4.out hU6 HLO.out)
      clear ho6 hU6
      have c0 := HB6.out.cell (j := 0) rfl
      have t0 := HT6.out.cell (j := 0) rfl
      have f0 := HT6.out.free 0
      have t1 := HT6.out.cell (j := 1) rfl
      have f1 := HT6.out.free 1
      have t2 := HT6.out.cell (j := 2) rfl
      have f2 := HT6.out.free 2
      have t3 := HT6.out.cell (j := 3) rfl
      have f3 := HT6.out.free 3
      have t4 := HT6.out.cell (j := 4) rfl
      have f4 := HT6.out.free 4
      have t5 := HT6.out.cell (j := 5) rfl
      have f5 := HT6.out.free 5
      have t6 := HT6.out.cell (j := 6) rfl
      have f6 := HT6.out.free 6
      have t7 := HT6.out.cell (j := 7) rfl
      have f7 := HT6.out.free 7
      have t8 := HT6.out.cell (j := 8) rfl
      have f8 := HT6.out.free 8
      have HKEY := Lib.hid (show ∀ W', Upd [w.heap.size + 1] w6 W' → (W'.ownsRow w.heap.size 9 1 (.slice A done.length cA) ms.length ((sortS ms).map Value.string) ∧ Upd [] w W') from fun W' h =>
        ⟨by
          have h1 := own_upd HO6.out h (fun g hg hm => HTO.out (by simp at hm; subst hm; simp [hg]))
          rw [HDL.out] at h1 ⊢
          exact h1, Upd.low HU6.out h (by simp)⟩)
      go_wp2_with fail
      refine bodyPost_ret (v := .agg (tallyC 0 ⟨#[]⟩ n 0 0 nilV (.slice A done.length cA)).toArray) ?_ rfl ⟨_, rfl, HKEY.out _ ?_⟩
      · simp [results, Tryz.f169, go_sem, t0, t1, t2, t3, t4, t5, t6, t7, t8, tallyC, wh0, wl0]
      · repeat (first | with_reducible exact Upd.refl _ _ | with_reducible refine Upd.drew ?_ | (with_reducible refine Upd.setCell ?_ (.inl ?h) _; case h => simp))
    · obtain ⟨l1, x, l2, rfl, h1, h2, h3⟩ := map_app kvU hsp
      simp only [kvU, Prod.mk.injEq] at h2
      obtain ⟨rfl, rfl⟩ := h2
      rw [← h1, ← h3, ← List.map_append] at hR5
      obtain ⟨A, cA, rfl, _, _, _⟩ := own_shape HO.out
      have hlen : (done ++ (l1 ++ x :: l2)).length ≤ 4194304 := by rw [HPM.out.length_eq]; exact hn
      simp at hlen
      have hnr := own_ne_rng HO.out HRG.out
      have hlo := own_low HO.out
      have hpo := own_notin' HO.out HB4.out (by decide)
      have hto := own_notin' HO.out HT4.out (by decide)
      have hle := HRG.out.left_eq
      have hmt : m ∉ [w.heap.size + 1 + 1 + 1] := by simp; omega
      have hpt : p ∉ [w.heap.size + 1 + 1 + 1] := by simp; omega
      have HO5 := Lib.hid (own_upd HO.out (hU5.alloc (.cells #[.string x] 9)) (fun g hg hm => hnr.2 (by simp at hm; subst hm; simp [hg])))
      have HNB := Lib.hid (HB.new w5 9 [.string x])
      have HS5 := Lib.hid (show w.heap.size ≤ (w5.alloc (.cells #[.string x] 9)).heap.size by have := HU4.out.size; have := hU5.size; simp; omega)
      have HU6 := Lib.hid ((Upd.low HU4.out hU5 (by intro i hi; simp at hi; omega)).alloc (.cells #[.string x] 9))
      have HR6 := Lib.hid (hR5.upd ((Upd.refl [] w5).alloc (.cells #[.string x] 9)) (by simp) (by simp))
      have HB6 := Lib.hid ((HB4.out.upd hU5 hpt).alloc (.cells #[.string x] 9))
      have HT6 := Lib.hid ((HT4.out.upd hU5 (by simp)).alloc (.cells #[.string x] 9))
      have HNS := Lib.hid (And.intro hnr (And.intro hpo (And.intro hto (And.intro hlo hle))))
      clear hR5 hnr hlo hpo hto hle hsp hU5
      go_wp2_with (at_builtin; go_must (refine wp_append1 w.heap.size 52 9 _ 1 16 (.slice A done.length cA) done.length (done.map Value.string) [.string x] _ rfl rfl (by kernel_rfl) infoS rfl (by decide) (by decide) rfl rfl rfl (by simp [Value.oneCell']) HO5.out HNB.out HS5.out (by omega) ?_))
      intro v1 w7 hown7 hU7 hat7
      obtain ⟨B, cB, rfl, _, _, _⟩ := own_shape hown7
      have HO7 := Lib.hid hown7
      have HU7 := Lib.hid hU7
      clear hown7 hU7 hat7
      go_wp2
      go_roundw
      case rel =>
        obtain ⟨⟨n1, n2⟩, n3, n4, n5, n6⟩ := HNS.out
        refine ⟨done ++ [x], l1 ++ l2, ?_, HR6.out.upd HU7.out n1 n2, ?_, HB6.out.upd HU7.out n3, HT6.out.upd HU7.out n4, Upd.low HU6.out HU7.out n5⟩
        · refine List.Perm.trans ?_ HPM.out
          rw [List.append_assoc]
          exact List.Perm.append_left done (by simpa using List.perm_middle.symm)
        · rw [List.map_append, List.length_append]
          exact HO7.out
      case measure =>
        obtain ⟨⟨n1, n2⟩, n3, n4, n5, n6⟩ := HNS.out
        rw [n6, (HR6.out.upd HU7.out n1 n2).left_eq]
        simp
def TK.n : TK → Int
  | .cnt n _ => n
  | .gau n _ _ => n
  | .tim _ _ xs => xs.length
  | .set n _ => n
def TK.sum (b : Int) : TK → Int
  | .cnt _ s => s
  | .gau _ st v => if st = true then v else b + v
  | .tim s _ _ => s
  | .set .. => 0
def TK.wt : TK → Int
  | .tim _ sw _ => sw
  | _ => 0
def TK.smp : TK → List Int
  | .tim _ _ xs => sortI xs
  | _ => []
def TK.mem : TK → List ByteArray
  | .set _ ms => sortS ms
  | _ => []
def TK.tellF : TK → FuncId
  | .cnt .. => 162
  | .gau .. => 165
  | .tim .. => 167
  | .set .. => 169
theorem own_nilV (w : World) (base : Nat) (e : TypeId) : w.ownsRow base e 1 nilV 0 [] := ⟨rfl, .inl ⟨rfl, rfl⟩⟩
theorem tell_calls (base p N : Nat) (x : List Nat) (tk : TK) (b : Int) (w : World) (h : TakAt w base p x tk) (hN : tk.ok N) (hN2 : N ≤ 4194304) (hb : b.natAbs ≤ 1000000000000000000000000000) :
    Calls Tryz.prog tk.tellF #[.pointer (some ⟨p, 0, none⟩), wide b] w fun r w' => ∃ sv mv, r = .returned (.agg (tallyC 0 ⟨#[]⟩ tk.n (tk.sum b) tk.wt sv mv).toArray) ∧ w'.ownsRow base 2 1 sv tk.smp.length (tk.smp.map (Value.int .i64)) ∧
      w'.ownsRow w.heap.size 9 1 mv tk.mem.length (tk.mem.map Value.string) ∧ (∀ g, sv.ownBlock = some g → g ∈ x) ∧ Upd x w w' := by
  cases tk with
  | cnt n s =>
    obtain ⟨h1, rfl⟩ := h
    refine (cnt_tell p n s b w h1).mono ?_
    rintro r w' ⟨rfl, hU⟩
    exact ⟨_, _, rfl, own_nilV _ _ _, own_nilV _ _ _, (fun g hg => by cases hg), hU⟩
  | gau n st v =>
    obtain ⟨h1, rfl⟩ := h
    obtain ⟨g1, g2⟩ := hN
    refine (gau_tell p n v b st w h1 (by unfold I128; omega) (by unfold I128; omega) (fun _ => by unfold I128; omega)).mono ?_
    rintro r w' ⟨rfl, hU⟩
    exact ⟨_, _, rfl, own_nilV _ _ _, own_nilV _ _ _, (fun g hg => by cases hg), hU⟩
  | tim s sw xs =>
    obtain ⟨sv, h1, h2, rfl⟩ := h
    obtain ⟨g1, g2, g3⟩ := hN
    refine (tim_tell p base s sw b xs sv w h1 h2 (by omega)).mono ?_
    rintro r w' ⟨rfl, ho, hU⟩
    refine ⟨sv, _, rfl, ?_, own_nilV _ _ _, (fun g hg => by simp [hg]), hU⟩
    show w'.ownsRow base 2 1 sv (sortI xs).length _
    rw [sortI_len]
    exact ho
  | set n ms =>
    obtain ⟨c, h1, h2, rfl⟩ := h
    obtain ⟨g1, g2⟩ := hN
    refine (set_tell p c n b ms w h1 h2 (by omega)).mono ?_
    rintro r w' ⟨mv, rfl, ho, hU⟩
    refine ⟨_, mv, rfl, own_nilV _ _ _, ?_, (fun g hg => by cases hg), hU.of0⟩
    show w'.ownsRow _ 9 1 mv (sortS ms).length _
    rw [sortS_len]
    exact ho
end Go.Proofs.YthbjpoiolmlpmaaGreatDoor
