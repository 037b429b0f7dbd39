/- The reference's bytes: tumblerref13.Hash, tumblerref19.high, (*tumblerref19.reader).number. -/
import Derived.Test.YtdjpcinibgbglaaTold
import Derived.Test.YtdjpcinibgbglaaMixS
import Derived.Test.YtdjpcinibgbglaaNum
set_option linter.unusedVariables false
set_option linter.unusedSimpArgs false
namespace Go.Proofs.Ytdjpcinibgbglaa
open Go.RowKit Go.Sort
theorem xor_u64 {a c : Int} (h : 0 ≤ a ∧ a ≤ 4294967295) (hc : 0 ≤ c ∧ c ≤ 4294967295) : bits .xor .u64 a c = bits .xor .u32 a c := by
  obtain ⟨h1, h2⟩ := xor_u32 h hc
  rw [h1]
  obtain ⟨n, rfl⟩ := Int.eq_ofNat_of_zero_le h.1
  obtain ⟨d, rfl⟩ := Int.eq_ofNat_of_zero_le hc.1
  have e1 : BitVec.ofInt 64 (n : Int) = BitVec.ofNat 64 n := by apply BitVec.eq_of_toNat_eq; simp
  have e2 : BitVec.ofInt 64 (d : Int) = BitVec.ofNat 64 d := by apply BitVec.eq_of_toNat_eq; simp
  have e3 : (BitVec.ofNat 64 n ^^^ BitVec.ofNat 64 d).toNat = n ^^^ d := by
    rw [BitVec.toNat_xor, BitVec.toNat_ofNat, BitVec.toNat_ofNat, Nat.mod_eq_of_lt (by omega), Nat.mod_eq_of_lt (by omega)]
  show IntKind.u64.wrap (((BitVec.ofInt 64 (n : Int) ^^^ BitVec.ofInt 64 (d : Int) : BitVec 64).toNat : Nat) : Int) = _
  rw [e1, e2, e3]
  simp only [Int.toNat_natCast] at h2 ⊢
  simp [IntKind.wrap, IntKind.bits, IntKind.signed]
  omega
set_option maxRecDepth 4000 in
set_option maxHeartbeats 1000000 in
theorem rhash_calls (s : ByteArray) (hs : s.size ≤ maxLen) (w : World) :
    Calls Try.prog 56 #[.string s] w fun e w' => e = .returned (.int .u32 (fnv (nums s))) ∧ w' = w := by
  have hlm : s.size ≤ 9223372036854775807 := Nat.le_trans hs (by unfold maxLen; decide)
  go_enter Try.func56, Try.ntmps56
  go_wp2_with fail
  go_loopw [3, 4] (fun h i wr => ∃ k : Nat, k ≤ s.size ∧ i = .int .i64 (k : Int) ∧ h = .int .u64 (fnv ((nums s).take k)) ∧ wr = w) (fun _ i _ => s.size - (intOf i).toNat)
  case atStart => exact ⟨0, Nat.zero_le _, rfl, rfl, rfl⟩
  case round =>
    obtain ⟨k, hk, rfl, rfl, rfl⟩ := hrel
    by_cases hlt : k < s.size
    · have hkI : (k : Int) < (s.size : Int) := by omega
      obtain ⟨F, hF⟩ : ∃ F, F = fnv ((nums s).take k) := ⟨_, rfl⟩
      have HF := Lib.hid hF
      have hFb := fnv_bd ((nums s).take k)
      rw [← hF] at hFb
      rw [← hF]
      have hxb : (0 : Int) ≤ (s[k].toNat : Int) ∧ (s[k].toNat : Int) ≤ 255 := by have := s[k].toNat_lt; omega
      have hx := xor_u64 hFb (c := (s[k].toNat : Int)) (by omega)
      have hx2 := xor_u32 hFb (c := (s[k].toNat : Int)) (by omega)
      obtain ⟨X, hX⟩ : ∃ X, X = bits .xor .u32 F (s[k].toNat : Int) := ⟨_, rfl⟩
      have hXb : 0 ≤ X ∧ X < 4294967296 := by rw [hX, hx2.1]; omega
      have HFT := Lib.hid (show X * 16777619 % 4294967296 = fnv ((nums s).take (k + 1)) by
        have h := fnv_take s hlt
        rw [← hF, show (s[k].toNat : Int) % 4294967296 = (s[k].toNat : Int) by omega] at h
        rw [← h, hX]
        rfl)
      rw [← hX] at hx
      clear hF hX hx2 hFb
      go_wp2
      exact ⟨⟨k + 1, hlt, rfl, by rw [← HFT.out], trivial⟩, by simp [intOf]; omega⟩
    · obtain rfl : k = s.size := by omega
      have e1 : fnv ((nums s).take s.size) = fnv (nums s) := by rw [← nums_len, List.take_length]
      have hb := fnv_bd (nums s)
      have hw : IntKind.u32.wrap (fnv (nums s)) = fnv (nums s) := by simp [IntKind.wrap, IntKind.bits, IntKind.signed]; omega
      rw [e1]
      clear e1
      go_wp2_with fail
      go_ret
      exact ⟨rfl, rfl⟩
set_option maxRecDepth 4000 in
set_option maxHeartbeats 1000000 in
theorem rhigh_calls (n : Int) (hn : U64 n) (k : Nat) (hk : k ≤ 8) (hk1 : 1 ≤ k) (w : World) :
    Calls Try.prog 55 #[.int .u64 n, .int .i64 k] w fun e w' => e = .returned (.string (strOfNums (highL n k))) ∧ Upd [] w w' := by
  have e1 : wrap64 ((k : Int) - 1) = (k : Int) - 1 := w64 (by unfold I64; omega)
  go_enter Try.func55, Try.ntmps55
  go_wp2_with fail
  go_loopw [5, 6] (fun v i wr => ∃ (j : Nat) (l : List Int), j ≤ k ∧ i = .int .i64 ((j : Int) - 1) ∧ l ++ highL n j = highL n k ∧ wr.ownsRow w.heap.size 5 1 v (k - j) (cb l) ∧ Upd [] w wr) (fun _ i _ => (intOf i + 1).toNat)
  case atStart => exact ⟨k, [], Nat.le_refl _, rfl, rfl, by rw [Nat.sub_self]; exact ⟨rfl, .inl ⟨rfl, rfl⟩⟩, Upd.refl _ _⟩
  case round =>
    obtain ⟨j, l, hj, rfl, hl, hO, hU⟩ := hrel
    have HO := Lib.hid hO
    have HUR := Lib.hid hU
    have HL := Lib.hid hl
    obtain ⟨A, c, rfl, _, _, _⟩ := own_shape hO
    clear hO hU hl
    rcases j with _ | j
    · have hll : l = highL n k := by have := HL.out; rwa [highL, List.append_nil] at this
      have hrow : BRow wr w.heap.size (.slice A k c) (highL n k) := by
        have := HO.out
        rw [Nat.sub_zero, hll] at this
        unfold BRow
        rw [highL_len]
        exact this
      have hcv := row_str hrow.row (by rw [highL_len]; omega)
      rw [Nat.sub_zero]
      clear hll hrow HL HO
      go_wp2_with fail
      go_ret
      exact ⟨rfl, HUR.out⟩
    · have ek : (((j + 1 : Nat) : Int) - 1) = (j : Int) := by omega
      rw [ek]
      have hj0 : (0 : Int) ≤ (j : Int) := by omega
      have hj8 : j ≤ 7 := by omega
      have hwk : wrap64 ((j : Int) - 1) = (j : Int) - 1 := w64 (by unfold I64; omega)
      have hsh := high_sh n j
      have hUS := HUR.out.size
      have HN := Lib.hid (HB.new wr 5 [.int .u8 (n / 256 ^ j % 256)])
      have hkj : k - (j + 1) + 1 = k - j := by omega
      have hj2 : j ≤ k := by omega
      go_wp2_with (at_builtin; go_must (refine wp_append1 w.heap.size 62 5 _ 1 1 (.slice A (k - (j + 1)) c) (k - (j + 1)) (cb l) [.int .u8 (n / 256 ^ j % 256)] _ rfl rfl (by kernel_rfl) infoY rfl (by decide) (by decide) rfl rfl rfl (cb_one [_]) (own_upd HO.out ((Upd.refl [] wr).alloc _) (by simp)) HN.out (by simp; omega) (by omega) ?_))
      intro v1 w1 hown1 hU1 hat1
      have HO1 := Lib.hid hown1
      have HU1a := Lib.hid (app_upd HUR.out ((Upd.refl [] wr).alloc _) hU1 (own_base HO.out))
      clear hown1 hU1 hat1 hsh
      go_wp2
      exact ⟨⟨j, l ++ [n / 256 ^ j % 256], hj2, rfl, by rw [List.append_assoc]; exact HL.out, by rw [cb_app]; exact HO1.out, HU1a.out⟩, by simp [intOf]⟩
set_option maxRecDepth 40000 in
set_option maxHeartbeats 2000000 in
theorem rnumber_calls (rb : Nat) (S : ByteArray) (p k : Nat) (w : World) (hB : HB w rb 132 [.string S, .int .i64 p]) (hk : k ≤ 8) (hp : p ≤ S.size) (hl : S.size ≤ 140737488355328) :
    Calls Try.prog 57 #[.pointer (some ⟨rb, 0, none⟩), .int .i64 k] w fun e w' => e = .returned (.tuple #[.int .u64 ((numAt (nums S) p k).getD 0), .bool (numAt (nums S) p k).isSome]) ∧ HB w' rb 132 [.string S, .int .i64 (if (numAt (nums S) p k).isSome = true then p + k else p : Nat)] ∧ Upd [rb] w w' := by
  have HBR := Lib.hid hB
  have hnl := nums_len S
  have c0 := fun q : Wd [] w => q.h.cell (hB.cell (j := 0) rfl) (by simp)
  have c1 := fun q : Wd [] w => q.h.cell (hB.cell (j := 1) rfl) (by simp)
  have es : wrap64 ((S.size : Int) - (p : Int)) = (S.size : Int) - (p : Int) := w64 (by unfold I64; omega)
  clear hB
  by_cases hc : p + k ≤ S.size
  · have e0 : numAt (nums S) p k = some (num (((nums S).drop p).take k)) := by unfold numAt; rw [hnl, if_pos hc]
    rw [e0]
    simp only [Option.getD_some, Option.isSome_some, if_true]
    have d1 : decide ((S.size : Int) - (p : Int) < (k : Int)) = false := decide_eq_false (by omega)
    have hby : Byt (nums S) := fun x hx => by
      unfold nums at hx
      obtain ⟨u, _, rfl⟩ := List.mem_map.1 hx
      have := u.toNat_lt
      omega
    have HBY := Lib.hid hby
    have HNL := Lib.hid hnl
    clear hby e0 hnl
    go_enter Try.func57, Try.ntmps57
    go_wp2_with fail
    refine mix_start (n := 12) 12 (fun w' => ∃ p : Wd [] w, w' = p.v) (by kernel_rfl) (by kernel_rfl) ?_
    refine mix_quiet [true, true, true, true, true, true, true, true, true, true, true, true] 0 rfl (by kernel_rfl) (by kernel_rfl) (by kernel_rfl) (by kernel_rfl) ⟨⟨_, (Upd.refl [] w).drew⟩, rfl⟩ ?_
    simp only [maskL]
    repeat (go_big_quiet_step (fail))
    refine wpQuiet_nil ?_
    refine mix_end (by kernel_rfl) ?_
    clear c0 c1 es d1
    have HU1 := Lib.hid ((Upd.refl [] w).drew)
    go_wp2_with fail
    go_loopw [6, 7] (fun nv iv wr => ∃ j : Nat, j ≤ k ∧ iv = .int .i64 (j : Int) ∧ nv = .int .u64 (num (((nums S).drop p).take j)) ∧ Upd [] w wr) (fun _ iv _ => k - (intOf iv).toNat)
    case atStart => exact ⟨0, Nat.zero_le _, rfl, by simp [num], HU1.out⟩
    case round =>
      obtain ⟨j, hj, rfl, rfl, hU⟩ := hrel
      have HU := Lib.hid hU
      have hB1 := HBR.out.upd hU (by simp)
      by_cases hjk : j < k
      · have c0 := fun q : Wd [] wr => q.h.cell (hB1.cell (j := 0) rfl) (by simp)
        have c1 := fun q : Wd [] wr => q.h.cell (hB1.cell (j := 1) rfl) (by simp)
        have hpj : p + j < S.size := by omega
        have ES1 := Lib.hid (show wrap64 ((p : Int) + (j : Int)) = (p : Int) + (j : Int) by rw [w64 (by unfold I64; omega)])
        have ES2 := Lib.hid (show IntKind.i64.wrap ((p : Int) + (j : Int)) = (p : Int) + (j : Int) by rw [wrapI' (by unfold I64; omega)])
        have ES3 := Lib.hid (show ((p : Int) + (j : Int)).toNat = p + j by omega)
        have es4 : 0 ≤ (p : Int) + (j : Int) := by omega
        have es5 : (p : Int) + (j : Int) < (S.size : Int) := by omega
        obtain ⟨n, hn⟩ : ∃ n, n = num (((nums S).drop p).take j) := ⟨_, rfl⟩
        have hjI : (j : Int) < (k : Int) := by omega
        have hnb := num_bd (((nums S).drop p).take j) (fun y hy => HBY.out y (List.mem_of_mem_drop (List.mem_of_mem_take hy)))
        rw [← hn] at hnb
        have hlen : (((nums S).drop p).take j).length = j := by rw [List.length_take, List.length_drop, HNL.out]; omega
        rw [hlen] at hnb
        have h256 := p256_le (show j ≤ 7 by omega)
        have hxb : (0 : Int) ≤ (S[p + j].toNat : Int) ∧ (S[p + j].toNat : Int) ≤ 255 := by have := S[p + j].toNat_lt; omega
        have hor := or_byte (a := n) (c := (S[p + j].toNat : Int)) ⟨hnb.1, by omega⟩ hxb
        have hms : k - (j + 1) < k - j := by omega
        rw [← hn]
        have HN := Lib.hid hn
        have hwr : IntKind.u64.wrap (n * 256) = n * 256 := by simp [IntKind.wrap, IntKind.bits, IntKind.signed]; omega
        rw [← hwr] at hor
        have HNX := Lib.hid (show num (((nums S).drop p).take (j + 1)) = n * 256 + (S[p + j].toNat : Int) by
          have hx : (nums S)[p + j]? = some (S[p + j].toNat : Int) := by
            unfold nums
            rw [List.getElem?_map, Array.getElem?_toList, Array.getElem?_eq_getElem hpj]
            rfl
          rw [List.take_add_one, List.getElem?_drop, hx, Option.toList_some, num_snoc, ← hn])
        have HOR := Lib.hid (hor.trans (by rw [hwr]))
        clear hn hlen h256 hU hor hwr hB1
        have es := ES1.out
        have es2 := ES2.out
        have es3 := ES3.out
        go_wp2_with fail
        refine mix_start (n := 16) 15 (fun w' => ∃ p : Wd [] wr, w' = p.v) (by kernel_rfl) (by kernel_rfl) ?_
        refine mix_quiet [true, true, true, true, true, true, true, true, true, true, true, true, true, true, true] 1 rfl (by kernel_rfl) (by kernel_rfl) (by kernel_rfl) (by kernel_rfl) ⟨⟨_, (Upd.refl [] wr).drew⟩, rfl⟩ ?_
        simp only [maskL]
        repeat (go_big_quiet_step (fail))
        refine wpQuiet_nil ?_
        refine mix_tail (by kernel_rfl) (by kernel_rfl) ?_
        simp only [List.drop_succ_cons, List.drop_zero]
        clear c0 c1 es es2
        go_wp2
        exact ⟨⟨j + 1, hjk, rfl, by rw [HNX.out]; exact congrArg (Value.int .u64) HOR.out, HU.out.drew⟩, by simp [intOf]; omega⟩
      · obtain rfl : j = k := by omega
        have b0 := hB1.cell (j := 0) rfl
        have b1 := hB1.cell (j := 1) rfl
        have bf1 := hB1.free 1
        have HB2 := Lib.hid hB1
        have ew : wrap64 ((p : Int) + (j : Int)) = ((p + j : Nat) : Int) := by rw [w64 (by unfold I64; omega)]; omega
        clear hB1 hU
        go_wp2
        go_ret2
        exact ⟨rfl, HB2.out.set 1 (.int .i64 ((p + j : Nat) : Int)), (HU.out.of0).setCell (.inl (by simp)) _⟩
  · have e0 : numAt (nums S) p k = none := by unfold numAt; rw [hnl, if_neg hc]
    rw [e0]
    simp only [Option.getD_none, Option.isSome_none, Bool.false_eq_true, if_false]
    have d1 : decide ((S.size : Int) - (p : Int) < (k : Int)) = true := decide_eq_true (by omega)
    clear hnl
    go_enter Try.func57, Try.ntmps57
    go_wp2_with fail
    refine mix_start (n := 12) 12 (fun w' => ∃ p : Wd [] w, w' = p.v) (by kernel_rfl) (by kernel_rfl) ?_
    refine mix_quiet [true, true, true, true, true, true, true, true, true, true, true, true] 0 rfl (by kernel_rfl) (by kernel_rfl) (by kernel_rfl) (by kernel_rfl) ⟨⟨_, (Upd.refl [] w).drew⟩, rfl⟩ ?_
    simp only [maskL]
    repeat (go_big_quiet_step (fail))
    refine wpQuiet_nil ?_
    refine mix_end (by kernel_rfl) ?_
    go_wp2
    go_ret2
    exact ⟨rfl, HBR.out.drew, ((Upd.refl [rb] w).drew)⟩
set_option maxHeartbeats 1000000 in
theorem rplace_calls (b : Band) (t : Int) (hs : 1 ≤ b.step) (hn : 1 ≤ b.n ∧ b.n ≤ 4096) (ht : 0 ≤ t ∧ t ≤ 1099511627775) (w : World) :
    Calls Try.prog 77 #[.agg #[.int .i64 b.step, .int .i64 b.n], .int .i64 t] w fun e w' => e = .returned (.int .i64 (b.place t)) ∧ Upd [] w w' := by
  have hB := HB.new w 44 [.int .i64 b.step, .int .i64 b.n]
  have hU := (Upd.refl [] w).alloc (.cells #[.int .i64 b.step, .int .i64 b.n] 44)
  have hpl := place_nat hs hn.1 ht.1
  have t1 : t.tdiv b.step = t / b.step := Int.tdiv_eq_ediv_of_nonneg ht.1
  have dq := ediv_le' ht.1 hs
  have t2 : IntKind.i64.wrap (t / b.step) = t / b.step := wrapI' (by unfold I64; omega)
  have t3 : (t / b.step).tmod (b.n : Int) = (b.place t : Int) := by rw [tmod_nn dq.1, hpl.1]
  have t4 : IntKind.i64.wrap (b.place t : Int) = (b.place t : Int) := wrapI' (by unfold I64; omega)
  have t5 : (((b.n : Nat) : Int) == 0) = false := by simp; omega
  have t6 : (b.step == 0) = false := by simp; omega
  have HU := Lib.hid hU
  obtain ⟨W1, hW1⟩ : ∃ W1, W1 = w.alloc (.cells #[.int .i64 b.step, .int .i64 b.n] 44) := ⟨_, rfl⟩
  rw [← hW1] at hB HU
  have c0 := fun q : Wd [] W1 => q.h.cell (hB.cell (j := 0) rfl) (by simp)
  have c1 := fun q : Wd [] W1 => q.h.cell (hB.cell (j := 1) rfl) (by simp)
  have HB1 := Lib.hid hB
  generalize b.place t = P at *
  generalize b.n = n at *
  clear hpl dq hU hB
  go_enter Try.func77, Try.ntmps77
  go_wp2_with fail
  rw [← hW1]
  refine mix_start (n := 8) 8 (fun w' => ∃ p : Wd [] W1, w' = p.v) (by kernel_rfl) (by kernel_rfl) ?_
  refine mix_quiet [true, true, true, true, true, true, true, true] 0 rfl (by kernel_rfl) (by kernel_rfl) (by kernel_rfl) (by kernel_rfl) ⟨⟨_, (Upd.refl [] W1).drew⟩, rfl⟩ ?_
  simp only [maskL]
  repeat (go_big_quiet_step (fail))
  refine wpQuiet_nil ?_
  refine mix_end (by kernel_rfl) ?_
  clear c0 c1 t1 t2 t3
  go_wp2
  go_ret
  exact ⟨rfl, HU.out.drew⟩
end Go.Proofs.Ytdjpcinibgbglaa
