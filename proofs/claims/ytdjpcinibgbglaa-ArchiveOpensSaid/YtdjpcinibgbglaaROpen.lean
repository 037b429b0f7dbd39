/- tumblerref19.Open (under way). -/
import Derived.Test.YtdjpcinibgbglaaRRead
import Derived.Test.YtdjpcinibgbglaaRBk
set_option linter.unusedVariables false
set_option linter.unusedSimpArgs false
namespace Go.Proofs.Ytdjpcinibgbglaa
open Go.RowKit Go.Sort
abbrev noRF : Value := .agg #[.int .i64 0, .int .i64 0, .slice none 0 0, .slice none 0 0]
def ROpenQ (w w' : World) (e : Ending) : Except (Nat × Int) Fl → Prop
  | .error (p, er) => e = .returned (.tuple #[noRF, .int .i64 (p : Nat), .int .i64 er]) ∧ Upd [] w w'
  | .ok f => ∃ sv hv, ∃ hs : List Value, e = .returned (.tuple #[.agg #[.int .i64 f.m, .int .i64 f.xff, sv, hv], .int .i64 0, .int .i64 0]) ∧ w'.ownsRow w.heap.size 44 2 sv f.bands.length ((f.bands.map Band.spc).flatMap spcC) ∧
      w'.ownsRow w.heap.size TP 1 hv f.bands.length hs ∧ (∀ (k : Nat) (b : Band) (v : Value), f.bands[k]? = some b → hs[k]? = some v → RowK w' (w.heap.size ≤ ·) ptR 3 v b.pts) ∧ Upd [] w w'
theorem nums_extract (S : ByteArray) (a b : Nat) : nums (S.extract a b) = ((nums S).take b).drop a := by
  unfold nums
  rw [ByteArray.data_extract, Array.toList_extract, List.extract_eq_take_drop, List.map_take, List.map_drop, List.drop_take]
theorem nums_inj {A B : ByteArray} (h : nums A = nums B) : A = B := by
  unfold nums at h
  have h2 := (List.map_inj_right (f := fun b : UInt8 => (b.toNat : Int)) (fun x y e => UInt8.toNat_inj.1 (by exact Int.ofNat.inj e))).1 h
  exact ByteArray.ext (Array.ext' h2)
theorem title_beq (T : ByteArray) : (T.toList == [82, 82, 65, 49]) = decide (nums T = titleL) := by
  rw [ByteArray.toList_eq]
  by_cases h : T.data.toList = [82, 82, 65, 49]
  · have : nums T = titleL := by unfold nums; rw [h]; rfl
    rw [h, this]
    rfl
  · rw [beq_false_of_ne h]
    have hn : nums T ≠ titleL := by
      intro e
      apply h
      have e2 : nums T = nums ⟨#[82, 82, 65, 49]⟩ := by rw [e]; rfl
      rw [nums_inj e2]
    simp [hn]
theorem or_i64 {a c : Nat} (k : Nat) (hc : c < 2 ^ k) (h : a * 2 ^ k + c < 9223372036854775808) : bits .or .i64 ((a * 2 ^ k : Nat) : Int) (c : Int) = ((a * 2 ^ k + c : Nat) : Int) := by
  have e1 : BitVec.ofInt 64 ((c : Nat) : Int) = BitVec.ofNat 64 c := by apply BitVec.eq_of_toNat_eq; simp
  have e2 : BitVec.ofInt 64 ((a * 2 ^ k : Nat) : Int) = BitVec.ofNat 64 (a * 2 ^ k) := by apply BitVec.eq_of_toNat_eq; simp only [BitVec.toNat_ofInt, BitVec.toNat_ofNat]; omega
  show IntKind.i64.wrap (((BitVec.ofInt 64 ((a * 2 ^ k : Nat) : Int) ||| BitVec.ofInt 64 ((c : Nat) : Int) : BitVec 64).toNat : Nat) : Int) = _
  rw [e1, e2]
  have e3 : (BitVec.ofNat 64 (a * 2 ^ k) ||| BitVec.ofNat 64 c).toNat = a * 2 ^ k + c := by
    rw [BitVec.toNat_or, BitVec.toNat_ofNat, BitVec.toNat_ofNat, Nat.mod_eq_of_lt (by omega), Nat.mod_eq_of_lt (by omega)]
    have := Nat.shiftLeft_add_eq_or_of_lt (b := c) (i := k) hc a
    rw [Nat.shiftLeft_eq] at this
    exact this.symm
  rw [e3]
  generalize a * 2 ^ k + c = z at *
  simp [IntKind.wrap, IntKind.bits, IntKind.signed]
  omega
theorem chk_bad (s : Spc) : ∀ (acc : List Spc) (i : Nat) (p : Option Spc), (chk i p acc).2 = 0 → i + acc.length < 8 → fitsS s (acc.getLast?.or p) = false → chk i p (acc ++ [s]) = (((i + acc.length : Nat) : Int), 190) := by
  intro acc
  induction acc with
  | nil =>
    intro i p _ h8 hf
    simp only [List.getLast?_nil, Option.none_or] at hf
    simp only [List.nil_append, chk, hf]
    rw [if_pos (.inr trivial)]
    rfl
  | cons y l ih =>
    intro i p h h8 hf
    simp only [List.length_cons] at h8
    have h1 := chk_step h
    rw [List.getLast?_cons] at hf
    have h2 := ih (i + 1) (some y) h1.2 (by omega) (by
      cases h : l.getLast? with
      | none => simpa [h] using hf
      | some a => simpa [h] using hf)
    simp only [List.cons_append, chk]
    rw [if_neg (by simp [h1.1]; omega), h2, List.length_cons, show i + 1 + l.length = i + (l.length + 1) by omega]
theorem chk_fst : ∀ (acc : List Spc) (i : Nat) (p : Option Spc), (chk i p acc).2 = 0 → chk i p acc = (0, 0) := by
  intro acc
  induction acc with
  | nil => intro i p _; rfl
  | cons y l ih =>
    intro i p h
    have h1 := chk_step h
    have h2 := ih (i + 1) (some y) h1.2
    rw [chk] at h ⊢
    split
    · rename_i hh
      rw [if_pos hh] at h
      cases h
    · exact h2
theorem check_more {acc : List Spc} {s : Spc} (h : (chk 0 none acc).2 = 0) (h8 : acc.length < 8) : check (acc ++ [s]) = if fitsS s acc.getLast? = true then (0, 0) else ((acc.length : Int), 190) := by
  unfold check
  rw [if_neg (by simp)]
  split
  · rename_i hf
    exact chk_fst _ _ _ (check_snoc h h8 hf)
  · rename_i hf
    have := chk_bad s acc 0 none h (by omega) (by rw [Option.or_none]; simpa using hf)
    rw [this, Nat.zero_add]
theorem toList_beq (A B : ByteArray) : (A.toList == B.toList) = decide (A = B) := by
  rw [ByteArray.toList_eq, ByteArray.toList_eq]
  by_cases h : A = B
  · simp [h]
  · have : A.data.toList ≠ B.data.toList := fun e => h (ByteArray.ext (Array.ext' e))
    rw [decide_eq_false h]
    exact beq_false_of_ne this
theorem or4 {a b c d : Nat} (ha : a < 256) (hb : b < 256) (hc : c < 256) (hd : d < 256) : bits .or .i64 (bits .or .i64 (bits .or .i64 ((a : Int) * 16777216) ((b : Int) * 65536)) ((c : Int) * 256)) (d : Int) = ((((a * 256 + b) * 256 + c) * 256 + d : Nat) : Int) := by
  rw [show (a : Int) * 16777216 = ((a * 2 ^ 24 : Nat) : Int) by omega, show (b : Int) * 65536 = ((b * 2 ^ 16 : Nat) : Int) by omega, or_i64 24 (by omega) (by omega),
    show a * 2 ^ 24 + b * 2 ^ 16 = (a * 2 ^ 8 + b) * 2 ^ 16 by omega, show (c : Int) * 256 = ((c * 2 ^ 8 : Nat) : Int) by omega, or_i64 16 (by omega) (by omega),
    show (a * 2 ^ 8 + b) * 2 ^ 16 + c * 2 ^ 8 = (a * 2 ^ 16 + b * 2 ^ 8 + c) * 2 ^ 8 by omega, or_i64 8 (by omega) (by omega)]
  exact congrArg Int.ofNat (by omega)
theorem chk_all : ∀ (l : List Spc) (i : Nat) (p : Option Spc), (chk i p l).2 = 0 → ∀ s ∈ l, okSpc s = true
  | [], _, _, _, s, hs => by cases hs
  | y :: l, i, p, h, s, hs => by
    rcases List.mem_cons.1 hs with rfl | hs
    · exact fits_ok (chk_step h).1
    · exact chk_all l _ _ (chk_step h).2 s hs
theorem own_rowB {α : Type} {enc : α → List Value} {k : Nat} (hk : ∀ x, (enc x).length = k) (h0 : 0 < k) {w : World} {base n : Nat} {e : TypeId} {v : Value} {xs : List α} (h : w.ownsRow base e k v n (xs.flatMap enc)) :
    RowK w (fun b => v.ownBlock = some b) enc k v xs := by
  obtain ⟨hn, A, c, rfl, h1, h2, h3, h4⟩ := own_row hk h0 h
  refine ⟨A, c, rfl, h1, h2, h3, fun i x hx => ?_⟩
  obtain ⟨b, o, r1, r2, r3⟩ := h4 i x hx
  refine ⟨b, o, r1, ?_, r3⟩
  obtain ⟨g, cap, cur, hv, _⟩ : ∃ g cap cur, Value.slice A xs.length c = .slice (some ⟨g, 0, none⟩) cap cur ∧ True := by
    rcases h.2 with ⟨hv, _⟩ | ⟨g, cap, cur, hv, _⟩
    · rw [r1] at hv
      cases hv
    · exact ⟨g, _, _, hv, trivial⟩
  rw [hv]
  injection hv with hv _ _
  rw [r1] at hv
  injection hv with hv
  injection hv with hv _ _
  subst hv
  rfl
theorem nums_byt (S : ByteArray) : Byt (nums S) := fun x hx => by
  unfold nums at hx
  obtain ⟨u, _, rfl⟩ := List.mem_map.1 hx
  have := u.toNat_lt
  omega
theorem byteAt {S : ByteArray} {i : Nat} (h : i < S.size) : (nums S)[i]? = some (S[i].toNat : Int) := by
  unfold nums
  rw [List.getElem?_map, Array.getElem?_toList, Array.getElem?_eq_getElem h]
  rfl
set_option maxRecDepth 40000 in
set_option maxHeartbeats 8000000 in
theorem ropen_calls (S : ByteArray) (hl : S.size ≤ 140737488355328) (w : World) :
    Calls Try.prog 29 #[.string S] w fun e w' => ROpenQ w w' e (openP (nums S)) := by
  obtain ⟨P, hP⟩ : ∃ P, P = openP (nums S) := ⟨_, rfl⟩
  rw [← hP]
  have HP := Lib.hid hP
  clear hP
  have hnl := nums_len S
  have HZ := Lib.hid (HB.new w TRF [.int .i64 0, .int .i64 0, .slice none 0 0, .slice none 0 0])
  have HU := Lib.hid ((Upd.refl [] w).alloc (.cells #[.int .i64 0, .int .i64 0, .slice none 0 0, .slice none 0 0] TRF))
  have HNL := Lib.hid hnl
  by_cases c0 : S.size < 14
  · have d0 : decide (S.size < 14) = true := decide_eq_true c0
    have d0i : decide ((S.size : Int) < 14) = true := decide_eq_true (by omega)
    obtain rfl : P = .error (0, 195) := by rw [HP.out]; unfold openP; rw [if_pos (by omega)]
    clear HP c0
    go_enter Try.func29, Try.ntmps29
    have y0 := (HZ.out).cell (j := 0) rfl
    have y1 := (HZ.out).cell (j := 1) rfl
    have y2 := (HZ.out).cell (j := 2) rfl
    have y3 := (HZ.out).cell (j := 3) rfl
    have f0 := (HZ.out).free 0
    have f1 := (HZ.out).free 1
    have f2 := (HZ.out).free 2
    have f3 := (HZ.out).free 3
    go_wp2
    refine bodyPost_ret (v := .tuple #[noRF, .int .i64 0, .int .i64 195]) ?_ rfl ⟨rfl, HU.out⟩
    simp [results, Try.f29, go_sem, y0, y1, y2, y3]
  · have d0 : decide (S.size < 14) = false := decide_eq_false c0
    have d0i : decide ((S.size : Int) < 14) = false := decide_eq_false (by omega)
    have hT := title_beq (S.extract 0 4)
    rw [nums_extract, List.drop_zero] at hT
    by_cases c1 : (nums S).take 4 = titleL
    · rw [decide_eq_true c1] at hT
      obtain ⟨e, he⟩ : ∃ e, S.size = e + 4 := ⟨S.size - 4, by omega⟩
      have hwe : (S.size : Int) - 4 = (e : Int) := by omega
      have HE := Lib.hid (show S.size = e + 4 ∧ 10 ≤ e ∧ e ≤ 140737488355328 by omega)
      obtain ⟨S0, hS0⟩ : ∃ S0, S0 = S.extract 0 e := ⟨_, rfl⟩
      obtain ⟨S4, hS4⟩ : ∃ S4, S4 = S.extract e S.size := ⟨_, rfl⟩
      have hn0 : nums S0 = (nums S).take e := by rw [hS0, nums_extract, List.drop_zero]
      have hn4 : nums S4 = (nums S).drop e := by rw [hS4, nums_extract, List.take_of_length_le (by omega)]
      have hs0 : S0.size = e := by rw [← nums_len, hn0, List.length_take]; omega
      obtain ⟨H, hH⟩ : ∃ H, H = fnv (nums S0) := ⟨_, rfl⟩
      have hHb : 0 ≤ H ∧ H ≤ 4294967295 := by have := fnv_bd (nums S0); omega
      have HHS := Lib.hid (show ∀ W, Calls Try.prog 56 #[.string S0] W fun e w' => e = .returned (.int .u32 H) ∧ Upd [] W w' from fun W => by
        rw [hH]
        exact (rhash_calls S0 (by rw [hs0]; unfold maxLen; omega) W).mono (fun _ _ ⟨h1, h2⟩ => ⟨h1, by rw [h2]; exact Upd.refl _ _⟩))
      obtain ⟨T4, hT4⟩ : ∃ T4, T4 = strOfNums (highL H 4) := ⟨_, rfl⟩
      have HHI := Lib.hid (show ∀ W, Calls Try.prog 55 #[.int .u64 H, .int .i64 4] W fun e w' => e = .returned (.string T4) ∧ Upd [] W w' from fun W => by
        rw [hT4]
        exact rhigh_calls H (by unfold U64; omega) 4 (by omega) (by omega) W)
      have hTn : nums T4 = highL H 4 := by rw [hT4]; exact nums_of (highL_byt _ _)
      have hSb : Byt (nums S4) := nums_byt S4
      have HTS := Lib.hid (show T4 = S4 ↔ num ((nums S).drop e) = fnv (nums S0) by
        rw [← hH, ← hn4]
        have hh := highL_num (nums S4) hSb
        rw [show (nums S4).length = 4 by rw [hn4, List.length_drop]; omega] at hh
        constructor
        · intro h
          rw [← h, hTn, num_highL]
          exact Int.emod_eq_of_lt hHb.1 (by have : (256 : Int) ^ 4 = 4294967296 := by decide
                                            omega)
        · intro h
          rw [h] at hh
          exact nums_inj (by rw [hTn, hh]))
      have HPP := Lib.hid (show P = if T4 = S4 then opnH (nums S0) (headP (nums S0)) else .error (e, 196) by
        rw [HP.out]
        unfold openP
        rw [if_neg (by omega), if_neg (by simpa using c1), show (nums S).length - 4 = e by omega, ← hn0]
        by_cases k : T4 = S4
        · rw [if_pos k, if_neg (by simpa using HTS.out.1 k)]
        · rw [if_neg k, if_pos (fun h => k (HTS.out.2 h))])
      have hwu : IntKind.u64.wrap H = H := by simp [IntKind.wrap, IntKind.bits, IntKind.signed]; omega
      have hx0 : S.extract 0 e = S0 := hS0.symm
      have hx4 : S.extract e S.size = S4 := hS4.symm
      have hx4' : S.extract e (e + 4) = S4 := by rw [hS4, he]
      have he0 : (e : Int) ≤ (S.size : Int) := by omega
      have he1 : (0 : Int) ≤ (e : Int) := by omega
      have hel : e ≤ S.size := by omega
      have HN0 := Lib.hid (And.intro hn0 hs0)
      clear HP c0 c1 hS0 hS4 hn0 hn4 hH hT4 hTn hSb hHb HTS hs0 hnl he
      go_enter Try.func29, Try.ntmps29
      go_wp2_with fail
      refine wp_region_quiet_below (by kernel_rfl) (by kernel_rfl) ?_
      repeat (go_big_quiet_step (first | (go_at_call 56; exact rg_of (HHS.out _)) | (go_at_call 55; exact rg_of (HHI.out _))))
      refine wpQuiet_nil ?_
      rintro _ ⟨⟨dq, osq⟩, rfl⟩
      clear hx0 hx4 hx4' he0 he1 hel hwe hwu
      have HUq := Lib.hid (HU.out.then (rg_upd _ dq osq))
      have HZq := Lib.hid (HZ.out.upd (rg_upd _ dq osq) (by simp))
      generalize grow (redrawn (w.alloc (.cells #[.int .i64 0, .int .i64 0, .slice none 0 0, .slice none 0 0] TRF)) dq) osq = w1 at *
      by_cases ct : T4 = S4
      · have dt : (T4.toList == S4.toList) = true := by rw [toList_beq]; exact decide_eq_true ct
        rw [dt, Bool.not_true]
        have HPO := Lib.hid (show P = opnH (nums S0) (headP (nums S0)) by rw [HPP.out, if_pos ct])
        obtain ⟨L, hL⟩ : ∃ L, L = nums S0 := ⟨_, rfl⟩
        rw [← hL] at HPO
        have HL := Lib.hid hL
        clear HPP ct hL
        have HUr := Lib.hid (HUq.out.then ((Upd.refl [] w1).alloc (.cells #[.string S0, .int .i64 10] TRR)))
        have HZr := Lib.hid (HZq.out.alloc (.cells #[.string S0, .int .i64 10] TRR))
        have HRr := Lib.hid (HB.new w1 TRR [.string S0, .int .i64 10])
        have HLR := Lib.hid HZq.out.lt
        have hs0 := HU.out.size
        have he14 : 14 ≤ S.size := by have := HE.out; omega
        have he0 : (e : Int) ≤ (S.size : Int) := by have := HE.out; omega
        have he1 : (0 : Int) ≤ (e : Int) := by omega
        have hel : e ≤ S.size := by omega
        have hx0 : S.extract 0 e = S0 := by
          apply nums_inj
          rw [nums_extract, List.drop_zero, HN0.out.1]
        have q4 : S[4].toNat < 256 := S[4].toNat_lt
        have q5 : S[5].toNat < 256 := S[5].toNat_lt
        have q6 : S[6].toNat < 256 := S[6].toNat_lt
        have q7 : S[7].toNat < 256 := S[7].toNat_lt
        have q8 : S[8].toNat < 256 := S[8].toNat_lt
        have q9 : S[9].toNat < 256 := S[9].toNat_lt
        have j4 : 4 < S.size := by omega
        have i4 : (4 : Int) < (S.size : Int) := by omega
        have j5 : 5 < S.size := by omega
        have i5 : (5 : Int) < (S.size : Int) := by omega
        have j6 : 6 < S.size := by omega
        have i6 : (6 : Int) < (S.size : Int) := by omega
        have j7 : 7 < S.size := by omega
        have i7 : (7 : Int) < (S.size : Int) := by omega
        have j8 : 8 < S.size := by omega
        have i8 : (8 : Int) < (S.size : Int) := by omega
        have j9 : 9 < S.size := by omega
        have i9 : (9 : Int) < (S.size : Int) := by omega
        go_wp2_with fail
        clear hx0
        generalize w1.alloc (.cells #[.string S0, .int .i64 10] TRR) = w2 at *
        generalize w1.heap.size = rb at *
        refine mix_start (n := 8) 8 (fun w' => ∃ p : Wd [] w2, w' = p.v) (by kernel_rfl) (by kernel_rfl) ?_
        refine mix_quiet [true, true, true, true, true, true, true, true] 0 rfl (by kernel_rfl) (by kernel_rfl) (by kernel_rfl) (by kernel_rfl) ⟨⟨_, (Upd.refl [] w2).drew⟩, rfl⟩ ?_
        simp only [maskL]
        repeat (go_big_quiet_step (fail))
        refine wpQuiet_nil ?_
        refine mix_end (by kernel_rfl) ?_
        go_wp2_with fail
        refine mix_start (n := 19) 19 (fun w' => ∃ p : Wd [] w2.drew, w' = p.v) (by kernel_rfl) (by kernel_rfl) ?_
        refine mix_quiet [true, true, true, true, true, true, true, true, true, true, true, true, true, true, true, true, true, true, true] 0 rfl (by kernel_rfl) (by kernel_rfl) (by kernel_rfl) (by kernel_rfl) ⟨⟨_, (Upd.refl [] w2.drew).drew⟩, rfl⟩ ?_
        simp only [maskL]
        repeat (go_big_quiet_step (fail))
        refine wpQuiet_nil ?_
        refine mix_end (by kernel_rfl) ?_
        have HUs := Lib.hid (HUr.out.drew.drew)
        have HZs := Lib.hid (HZr.out.drew.drew)
        have HRs := Lib.hid (HRr.out.drew.drew)
        generalize w2.drew.drew = w3 at *
        clear HUr HZr HRr HUq HZq
        rw [or4 q6 q7 q8 q9]
        clear q4 q5 q6 q7 q8 q9
        have hLi : ∀ i (h : i < 10), L[i]? = some ((S[i]'(by omega)).toNat : Int) := by
          intro i h
          rw [HL.out, HN0.out.1, List.getElem?_take_of_lt (by have := HE.out; omega)]
          exact byteAt (by omega)
        have hLl : L.length = e := by rw [HL.out, nums_len, HN0.out.2]
        have hLb : Byt L := by rw [HL.out]; exact nums_byt S0
        have hM : numAt L 4 1 = some (S[4].toNat : Int) := by
          rw [numAt_ok (by have := HE.out; omega), drop_cons' _ _ _ (hLi 4 (by omega))]
          simp [num]
        have hN : numAt L 5 1 = some (S[5].toNat : Int) := by
          rw [numAt_ok (by have := HE.out; omega), drop_cons' _ _ _ (hLi 5 (by omega))]
          simp [num]
        have hX : numAt L 6 4 = some ((((S[6].toNat * 256 + S[7].toNat) * 256 + S[8].toNat) * 256 + S[9].toNat : Nat) : Int) := by
          rw [numAt_ok (by have := HE.out; omega), drop_cons' _ _ _ (hLi 6 (by omega)), drop_cons' _ _ _ (hLi 7 (by omega)), drop_cons' _ _ _ (hLi 8 (by omega)), drop_cons' _ _ _ (hLi 9 (by omega))]
          simp [num]
        have bM := num1_bd hLb 4
        have bN := num1_bd hLb 5
        have bX := num4_bd hLb 6
        have hhd : headP L = headQ L ((numAt L 4 1).getD 0) ((numAt L 5 1).getD 0) ((numAt L 6 4).getD 0) := rfl
        rw [hM, hN, hX] at hhd
        rw [hM] at bM
        rw [hN] at bN
        rw [hX] at bX
        simp only [Option.getD_some] at hhd bM bN bX
        have HLL := Lib.hid (And.intro hLl hLb)
        clear hM hN hX hLi hLl hLb
        generalize ((((S[6].toNat * 256 + S[7].toNat) * 256 + S[8].toNat) * 256 + S[9].toNat : Nat) : Int) = X at *
        generalize (S[4].toNat : Int) = M at *
        generalize (S[5].toNat : Int) = N at *
        have HPQ := Lib.hid (show P = opnH L (headQ L M N X) by rw [HPO.out, hhd])
        clear hhd HPO he0 he1 hel dt hT
        by_cases m1 : M < 1 ∨ 5 < M
        · obtain rfl : P = .error (4, 195) := by rw [HPQ.out]; unfold headQ; rw [if_pos m1]; rfl
          clear HPQ
          rcases m1 with m1 | m1
          · have dm : decide (M < 1) = true := decide_eq_true m1
            have y0 := (HZs.out).cell (j := 0) rfl
            have y1 := (HZs.out).cell (j := 1) rfl
            have y2 := (HZs.out).cell (j := 2) rfl
            have y3 := (HZs.out).cell (j := 3) rfl
            have f0 := (HZs.out).free 0
            have f1 := (HZs.out).free 1
            have f2 := (HZs.out).free 2
            have f3 := (HZs.out).free 3
            go_wp2
            have hy := ((((HZs.out).set 0 (.int .i64 0)).set 1 (.int .i64 0)).set 2 (.slice none 0 0)).set 3 (.slice none 0 0)
            have k0 := hy.cell (j := 0) rfl
            have k1 := hy.cell (j := 1) rfl
            have k2 := hy.cell (j := 2) rfl
            have k3 := hy.cell (j := 3) rfl
            refine bodyPost_ret (v := .tuple #[noRF, .int .i64 (4), .int .i64 (195)]) ?_ rfl ⟨rfl, ((((HUs.out).setCell (.inr (Nat.le_refl _)) _).setCell (.inr (Nat.le_refl _)) _).setCell (.inr (Nat.le_refl _)) _).setCell (.inr (Nat.le_refl _)) _⟩
            simp [results, Try.f29, go_sem, k0, k1, k2, k3]
          · have dm : decide (M < 1) = false := decide_eq_false (by omega)
            have dm2 : decide (5 < M) = true := decide_eq_true m1
            have y0 := (HZs.out).cell (j := 0) rfl
            have y1 := (HZs.out).cell (j := 1) rfl
            have y2 := (HZs.out).cell (j := 2) rfl
            have y3 := (HZs.out).cell (j := 3) rfl
            have f0 := (HZs.out).free 0
            have f1 := (HZs.out).free 1
            have f2 := (HZs.out).free 2
            have f3 := (HZs.out).free 3
            go_wp2
            have hy := ((((HZs.out).set 0 (.int .i64 0)).set 1 (.int .i64 0)).set 2 (.slice none 0 0)).set 3 (.slice none 0 0)
            have k0 := hy.cell (j := 0) rfl
            have k1 := hy.cell (j := 1) rfl
            have k2 := hy.cell (j := 2) rfl
            have k3 := hy.cell (j := 3) rfl
            refine bodyPost_ret (v := .tuple #[noRF, .int .i64 (4), .int .i64 (195)]) ?_ rfl ⟨rfl, ((((HUs.out).setCell (.inr (Nat.le_refl _)) _).setCell (.inr (Nat.le_refl _)) _).setCell (.inr (Nat.le_refl _)) _).setCell (.inr (Nat.le_refl _)) _⟩
            simp [results, Try.f29, go_sem, k0, k1, k2, k3]
        · have dm : decide (M < 1) = false := decide_eq_false (by omega)
          have dm2 : decide (5 < M) = false := decide_eq_false (by omega)
          by_cases n1 : N < 1 ∨ 8 < N
          · obtain rfl : P = .error (5, 195) := by rw [HPQ.out]; unfold headQ; rw [if_neg m1, if_pos n1]; rfl
            clear HPQ m1
            rcases n1 with n1 | n1
            · have dn : decide (N < 1) = true := decide_eq_true n1
              have y0 := (HZs.out).cell (j := 0) rfl
              have y1 := (HZs.out).cell (j := 1) rfl
              have y2 := (HZs.out).cell (j := 2) rfl
              have y3 := (HZs.out).cell (j := 3) rfl
              have f0 := (HZs.out).free 0
              have f1 := (HZs.out).free 1
              have f2 := (HZs.out).free 2
              have f3 := (HZs.out).free 3
              go_wp2
              have hy := ((((HZs.out).set 0 (.int .i64 0)).set 1 (.int .i64 0)).set 2 (.slice none 0 0)).set 3 (.slice none 0 0)
              have k0 := hy.cell (j := 0) rfl
              have k1 := hy.cell (j := 1) rfl
              have k2 := hy.cell (j := 2) rfl
              have k3 := hy.cell (j := 3) rfl
              refine bodyPost_ret (v := .tuple #[noRF, .int .i64 (5), .int .i64 (195)]) ?_ rfl ⟨rfl, ((((HUs.out).setCell (.inr (Nat.le_refl _)) _).setCell (.inr (Nat.le_refl _)) _).setCell (.inr (Nat.le_refl _)) _).setCell (.inr (Nat.le_refl _)) _⟩
              simp [results, Try.f29, go_sem, k0, k1, k2, k3]
            · have dn : decide (N < 1) = false := decide_eq_false (by omega)
              have dn2 : decide (8 < N) = true := decide_eq_true n1
              have y0 := (HZs.out).cell (j := 0) rfl
              have y1 := (HZs.out).cell (j := 1) rfl
              have y2 := (HZs.out).cell (j := 2) rfl
              have y3 := (HZs.out).cell (j := 3) rfl
              have f0 := (HZs.out).free 0
              have f1 := (HZs.out).free 1
              have f2 := (HZs.out).free 2
              have f3 := (HZs.out).free 3
              go_wp2
              have hy := ((((HZs.out).set 0 (.int .i64 0)).set 1 (.int .i64 0)).set 2 (.slice none 0 0)).set 3 (.slice none 0 0)
              have k0 := hy.cell (j := 0) rfl
              have k1 := hy.cell (j := 1) rfl
              have k2 := hy.cell (j := 2) rfl
              have k3 := hy.cell (j := 3) rfl
              refine bodyPost_ret (v := .tuple #[noRF, .int .i64 (5), .int .i64 (195)]) ?_ rfl ⟨rfl, ((((HUs.out).setCell (.inr (Nat.le_refl _)) _).setCell (.inr (Nat.le_refl _)) _).setCell (.inr (Nat.le_refl _)) _).setCell (.inr (Nat.le_refl _)) _⟩
              simp [results, Try.f29, go_sem, k0, k1, k2, k3]
          · have dn : decide (N < 1) = false := decide_eq_false (by omega)
            have dn2 : decide (8 < N) = false := decide_eq_false (by omega)
            by_cases x1 : 1000000 < X
            · obtain rfl : P = .error (6, 195) := by rw [HPQ.out]; unfold headQ; rw [if_neg m1, if_neg n1, if_pos x1]; rfl
              clear HPQ m1 n1
              have dx : decide (1000000 < X) = true := decide_eq_true x1
              have y0 := (HZs.out).cell (j := 0) rfl
              have y1 := (HZs.out).cell (j := 1) rfl
              have y2 := (HZs.out).cell (j := 2) rfl
              have y3 := (HZs.out).cell (j := 3) rfl
              have f0 := (HZs.out).free 0
              have f1 := (HZs.out).free 1
              have f2 := (HZs.out).free 2
              have f3 := (HZs.out).free 3
              go_wp2
              have hy := ((((HZs.out).set 0 (.int .i64 0)).set 1 (.int .i64 0)).set 2 (.slice none 0 0)).set 3 (.slice none 0 0)
              have k0 := hy.cell (j := 0) rfl
              have k1 := hy.cell (j := 1) rfl
              have k2 := hy.cell (j := 2) rfl
              have k3 := hy.cell (j := 3) rfl
              refine bodyPost_ret (v := .tuple #[noRF, .int .i64 (6), .int .i64 (195)]) ?_ rfl ⟨rfl, ((((HUs.out).setCell (.inr (Nat.le_refl _)) _).setCell (.inr (Nat.le_refl _)) _).setCell (.inr (Nat.le_refl _)) _).setCell (.inr (Nat.le_refl _)) _⟩
              simp [results, Try.f29, go_sem, k0, k1, k2, k3]
            · have dx : decide (1000000 < X) = false := decide_eq_false x1
              obtain ⟨n, rfl⟩ : ∃ n : Nat, N = (n : Int) := ⟨N.toNat, by omega⟩
              have HPS := Lib.hid (show P = opnH L (headT M X (rdSpecs L n 10 [])) by rw [HPQ.out]; unfold headQ; rw [if_neg m1, if_neg n1, if_neg x1]; rfl)
              have HMX := Lib.hid (show (1 ≤ M ∧ M ≤ 5) ∧ (1 ≤ n ∧ n ≤ 8) ∧ (0 ≤ X ∧ X ≤ 1000000) by omega)
              clear HPQ m1 n1 x1 bM bN bX
              go_wp2_with fail
              clear dm dm2 dn dn2 dx
              go_loopw [10, 11] (fun lv iv wr => ∃ (k p : Nat) (acc : List Spc), k ≤ n ∧ iv = .int .i64 (k : Int) ∧ acc.length = k ∧ rdSpecs L n 10 [] = rdSpecs L (n - k) p acc ∧ (chk 0 none acc).2 = 0 ∧ (∀ s ∈ acc, I64S s) ∧ p ≤ S0.size ∧ HB wr rb TRR [.string S0, .int .i64 (p : Nat)] ∧ wr.ownsRow (rb + 1) 44 2 lv k (acc.flatMap spcC) ∧ HB wr w.heap.size TRF [.int .i64 0, .int .i64 0, .slice none 0 0, .slice none 0 0] ∧ Upd [] w wr) (fun _ iv _ => n - (intOf iv).toNat)
              case atStart => exact ⟨0, 10, [], Nat.zero_le _, rfl, rfl, rfl, rfl, (fun s hs => by cases hs), (by have := HE.out; have := HN0.out.2; omega), HRs.out, ⟨rfl, .inl ⟨rfl, rfl⟩⟩, HZs.out, HUs.out⟩
              case round =>
                obtain ⟨k, p, acc, hk, rfl, hacl, hrs, hck, hI, hp, hR, hA, hZ, hU⟩ := hrel
                have HAC := Lib.hid hacl
                have HRS := Lib.hid hrs
                have HCK := Lib.hid hck
                have HI := Lib.hid hI
                have HR := Lib.hid hR
                have HA := Lib.hid hA
                have HZ' := Lib.hid hZ
                have HU' := Lib.hid hU
                obtain ⟨A, cA, rfl, _, _, _⟩ := own_shape hA
                have HPL := Lib.hid hp
                clear hacl hrs hck hI hR hA hZ hU HRs HZs HUs
                by_cases hkl : k < n
                · have hkn : (k : Int) < (n : Int) := by omega
                  have hms : n - (k + 1) < n - k := by omega
                  have y1 := HR.out.cell (j := 1) rfl
                  have hlS : S0.size ≤ 140737488355328 := by rw [HN0.out.2]; exact HE.out.2.2
                  have HRN := Lib.hid (rnumber_calls rb S0 p 8 wr HR.out (by omega) hp hlS)
                  rw [← HL.out] at HRN
                  have h1le := nx8_le (l := L) (p := p) (by rw [HLL.out.1, ← HN0.out.2]; exact hp)
                  have HP8 := Lib.hid (show nx8 L p ≤ S0.size by rw [HN0.out.2, ← HLL.out.1]; exact h1le)
                  clear h1le
                  go_wp2_with fail
                  refine HRN.out.mono ?_
                  clear y1
                  rintro e1 wa ⟨rfl, hRa, hUa⟩
                  have HRa := Lib.hid (show HB wa rb TRR [.string S0, .int .i64 (nx8 L p : Nat)] from hRa)
                  have HUa := Lib.hid hUa
                  have HRN2 := Lib.hid (rnumber_calls rb S0 (nx8 L p) 4 wa HRa.out (by omega) HP8.out hlS)
                  rw [← HL.out] at HRN2
                  obtain ⟨f1, hf1⟩ : ∃ f1, f1 = (numAt L p 8).isSome := ⟨_, rfl⟩
                  obtain ⟨n1, hn1⟩ : ∃ n1, n1 = (numAt L p 8).getD 0 := ⟨_, rfl⟩
                  rw [← hf1, ← hn1]
                  have HE1 := Lib.hid (And.intro hf1 hn1)
                  clear hRa hUa HRN hf1 hn1
                  go_wp2_with fail
                  refine HRN2.out.mono ?_
                  rintro e1 wb ⟨rfl, hRb, hUb⟩
                  have HRb := Lib.hid (show HB wb rb TRR [.string S0, .int .i64 (nx4 L (nx8 L p) : Nat)] from hRb)
                  have HUb := Lib.hid (HUa.out.then hUb)
                  obtain ⟨f2, hf2⟩ : ∃ f2, f2 = (numAt L (nx8 L p) 4).isSome := ⟨_, rfl⟩
                  obtain ⟨n2, hn2⟩ : ∃ n2, n2 = (numAt L (nx8 L p) 4).getD 0 := ⟨_, rfl⟩
                  rw [← hf2, ← hn2]
                  have HE2 := Lib.hid (And.intro hf2 hn2)
                  clear hRb hUb HRN2 hf2 hn2 HUa HRa
                  have hrw : w.heap.size ≠ rb := by have := HLR.out; omega
                  have HZb := Lib.hid (HZ'.out.upd HUb.out (by simp; exact hrw))
                  have HAb := Lib.hid (own_upd HA.out HUb.out (fun g hg hm => by have := own_base HA.out g hg; simp at hm; omega))
                  have HUc := Lib.hid (HU'.out.trans HUb.out (fun _ h => h) (fun i hi => .inr (by simp at hi; have := HLR.out; omega)))
                  have hNk : n - k = (n - (k + 1)) + 1 := by omega
                  have HBAD := Lib.hid (show ¬ ((numAt L (nx8 L p) 4).isSome = true ∧ fitsS (rdSpc L p) acc.getLast? = true) → P = .error (p, 195) from fun h => by
                    rw [HPS.out, HRS.out, hNk, rdSpecs_succ, if_neg h]
                    rfl)
                  have HPLL := Lib.hid (show p ≤ L.length by rw [HLL.out.1, ← HN0.out.2]; exact HPL.out)
                  clear hNk
                  by_cases c12 : p + 12 ≤ e
                  · have e1 := numAt_ok (l := L) (p := p) (k := 8) (by rw [HLL.out.1]; omega)
                    have x1 : nx8 L p = p + 8 := by unfold nx8; rw [e1]; rfl
                    have e2 := numAt_ok (l := L) (p := p + 8) (k := 4) (by rw [HLL.out.1]; omega)
                    have x2 : nx4 L (p + 8) = p + 12 := by unfold nx4; rw [e2]; rfl
                    have u1 := num8 HLL.out.2 p
                    have u2 := num4_bd HLL.out.2 (p + 8)
                    have h1 := HE1.out
                    have h2 := HE2.out
                    rw [e1] at h1
                    rw [x1, e2] at h2
                    rw [e2] at u2
                    simp only [Option.isSome_some, Option.getD_some] at h1 h2 u2
                    obtain ⟨rfl, h1⟩ := h1
                    obtain ⟨rfl, h2⟩ := h2
                    rw [← h1] at u1
                    rw [← h2] at u2
                    have hsp : rdSpc L p = (sI n1, n2) := by unfold rdSpc; rw [x1, e1, e2, h1, h2]; rfl
                    have hi4 : (numAt L (nx8 L p) 4).isSome = true := by rw [x1, e2]; rfl
                    have hRb := HRb.out
                    rw [x1, x2] at hRb
                    have HRc := Lib.hid hRb
                    have HX2 := Lib.hid (show nx4 L (nx8 L p) = p + 12 by rw [x1, x2])
                    have HSP := Lib.hid hsp
                    have HI4 := Lib.hid hi4
                    clear e1 e2 x1 x2 h1 h2 hi4 hRb HE1 HE2 HRb hsp
                    by_cases cM : n1 ≤ 1099511627775
                    · have dM : decide (1099511627775 < n1) = false := decide_eq_false (by omega)
                      have hu0 : 0 ≤ n1 := by unfold U64 at u1; exact u1.1
                      have hsI : sI n1 = n1 := by unfold sI; rw [if_pos (by omega)]
                      obtain ⟨s, hs⟩ : ∃ s : Spc, s = (n1, n2) := ⟨_, rfl⟩
                      have HSD := Lib.hid hs
                      have HSP2 := Lib.hid (show rdSpc L p = s by rw [HSP.out, hsI, hs])
                      have HIS := Lib.hid (show I64S s by rw [hs]; unfold I64S I64; exact ⟨⟨by omega, by omega⟩, by dsimp only; omega, by dsimp only; omega⟩)
                      have HUA := Lib.hid ((Upd.refl [] wb).alloc (.cells #[.int .i64 n1, .int .i64 n2] 44))
                      have hnb := HB.new wb 44 [.int .i64 n1, .int .i64 n2]
                      have HNB := Lib.hid (show HB (wb.alloc (.cells #[.int .i64 n1, .int .i64 n2] 44)) wb.heap.size 44 (spcC s) by rw [hs]; exact hnb)
                      have HWB := Lib.hid HRc.out.lt
                      clear hs hsI hnb
                      go_wp2_with (at_builtin; go_must (refine wp_append1 (rb + 1) 22 44 _ 2 16 (.slice A k cA) k _ (spcC s) _ rfl rfl (by kernel_rfl) infoSp rfl (by decide) (by decide) rfl rfl rfl (spc_one s) (own_upd HAb.out HUA.out (by simp)) HNB.out (by have := HWB.out; simp; omega) (by have := HMX.out; omega) ?_))
                      intro v3 w5 hown hU5 hat
                      have hown : w5.ownsRow (rb + 1) 44 2 v3 (k + 1) ((acc ++ [s]).flatMap spcC) := by rw [List.flatMap_append, List.flatMap_singleton]; exact hown
                      have hUa5 := HUA.out.of0.then hU5
                      have HA5 := Lib.hid hown
                      have HR5 := Lib.hid ((HRc.out.upd HUA.out (by simp)).upd hU5 (own_notin' (own_upd HAb.out HUA.out (by simp)) (HRc.out.upd HUA.out (by simp)) (by decide)))
                      have HZ5 := Lib.hid ((HZb.out.upd HUA.out (by simp)).upd hU5 (own_notin' (own_upd HAb.out HUA.out (by simp)) (HZb.out.upd HUA.out (by simp)) (by decide)))
                      have HU5 := Lib.hid (HUc.out.trans hUa5 (fun _ h => h) (fun i hi => .inr (by have := own_base HAb.out i (by simpa using hi); have := HLR.out; omega)))
                      have hsall : ∀ x ∈ acc ++ [s], I64S x := by
                        intro x hx
                        rw [List.mem_append] at hx
                        rcases hx with hx | hx
                        · exact HI.out x hx
                        · simp at hx; subst hx; exact HIS.out
                      have HIA := Lib.hid hsall
                      have hcc := rcheck_calls (rb + 1 ≤ ·) v3 (acc ++ [s]) w5 (own_row (enc := spcC) (fun _ => rfl) (by decide) hown).2 hsall
                      rw [check_more HCK.out (by have := HAC.out; have := HMX.out; omega)] at hcc
                      obtain ⟨B, cB, rfl, _, _, _⟩ := own_shape hown
                      have HC5 := Lib.hid hcc
                      clear hown hU5 hat hUa5 hsall hcc
                      by_cases hf : fitsS s acc.getLast? = true
                      · have HOK := Lib.hid (show rdSpecs L n 10 [] = rdSpecs L (n - (k + 1)) (p + 12) (acc ++ [s]) by
                          rw [HRS.out, show n - k = (n - (k + 1)) + 1 by omega, rdSpecs_succ, if_pos ⟨HI4.out, by rw [HSP2.out]; exact hf⟩, HSP2.out, HX2.out])
                        have HCK2 := Lib.hid (check_snoc HCK.out (by have := HAC.out; have := HMX.out; omega) hf)
                        rw [if_pos hf] at HC5
                        clear hf HBAD
                        go_wp2_with fail
                        refine HC5.out.mono ?_
                        rintro e1 w6 ⟨rfl, hU6⟩
                        have HU6 := Lib.hid hU6
                        have hn8 : n ≤ 8 := by have := HMX.out; omega
                        clear hU6
                        go_wp2
                        exact ⟨⟨k + 1, p + 12, acc ++ [s], hkl, rfl, by simp [HAC.out], HOK.out, HCK2.out, HIA.out, by have := HN0.out.2; omega, HR5.out.upd HU6.out (by simp), own_upd HA5.out HU6.out (by simp), HZ5.out.upd HU6.out (by simp), HU5.out.then HU6.out⟩, by simp [intOf]; omega⟩
                      · obtain rfl : P = .error (p, 195) := HBAD.out (fun h => hf (HSP2.out ▸ h.2))
                        rw [if_neg hf, HAC.out] at HC5
                        clear hf HBAD HPS
                        go_wp2_with fail
                        refine HC5.out.mono ?_
                        rintro e1 w6 ⟨rfl, hU6⟩
                        have HU6 := Lib.hid (HU5.out.then hU6)
                        have HZ6 := Lib.hid (HZ5.out.upd hU6 (by simp))
                        clear hU6
                        have y0 := (HZ6.out).cell (j := 0) rfl
                        have y1 := (HZ6.out).cell (j := 1) rfl
                        have y2 := (HZ6.out).cell (j := 2) rfl
                        have y3 := (HZ6.out).cell (j := 3) rfl
                        have f0 := (HZ6.out).free 0
                        have f1 := (HZ6.out).free 1
                        have f2 := (HZ6.out).free 2
                        have f3 := (HZ6.out).free 3
                        go_wp2
                        have hy := ((((HZ6.out).set 0 (.int .i64 0)).set 1 (.int .i64 0)).set 2 (.slice none 0 0)).set 3 (.slice none 0 0)
                        have k0 := hy.cell (j := 0) rfl
                        have k1 := hy.cell (j := 1) rfl
                        have k2 := hy.cell (j := 2) rfl
                        have k3 := hy.cell (j := 3) rfl
                        refine bodyPost_ret (v := .tuple #[noRF, .int .i64 (p), .int .i64 (195)]) ?_ rfl ⟨rfl, ((((HU6.out).setCell (.inr (Nat.le_refl _)) _).setCell (.inr (Nat.le_refl _)) _).setCell (.inr (Nat.le_refl _)) _).setCell (.inr (Nat.le_refl _)) _⟩
                        simp [results, Try.f29, go_sem, k0, k1, k2, k3]
                    · obtain rfl : P = .error (p, 195) := HBAD.out (by
                        rintro ⟨_, h⟩
                        have h := okSpc_iff.1 (fits_ok h)
                        rw [HSP.out] at h
                        unfold U64 at u1
                        unfold sI at h
                        split at h <;> omega)
                      have dM : decide (1099511627775 < n1) = true := decide_eq_true (by omega)
                      clear HBAD HPS cM
                      have y0 := (HZb.out).cell (j := 0) rfl
                      have y1 := (HZb.out).cell (j := 1) rfl
                      have y2 := (HZb.out).cell (j := 2) rfl
                      have y3 := (HZb.out).cell (j := 3) rfl
                      have f0 := (HZb.out).free 0
                      have f1 := (HZb.out).free 1
                      have f2 := (HZb.out).free 2
                      have f3 := (HZb.out).free 3
                      go_wp2
                      have hy := ((((HZb.out).set 0 (.int .i64 0)).set 1 (.int .i64 0)).set 2 (.slice none 0 0)).set 3 (.slice none 0 0)
                      have k0 := hy.cell (j := 0) rfl
                      have k1 := hy.cell (j := 1) rfl
                      have k2 := hy.cell (j := 2) rfl
                      have k3 := hy.cell (j := 3) rfl
                      refine bodyPost_ret (v := .tuple #[noRF, .int .i64 (p), .int .i64 (195)]) ?_ rfl ⟨rfl, ((((HUc.out).setCell (.inr (Nat.le_refl _)) _).setCell (.inr (Nat.le_refl _)) _).setCell (.inr (Nat.le_refl _)) _).setCell (.inr (Nat.le_refl _)) _⟩
                      simp [results, Try.f29, go_sem, k0, k1, k2, k3]
                  · have hff : ¬ ((numAt L (nx8 L p) 4).isSome = true ∧ fitsS (rdSpc L p) acc.getLast? = true) := by
                      rintro ⟨h4, h⟩
                      have h := okSpc_iff.1 (fits_ok h)
                      have h8 : (numAt L p 8).isSome = true := by
                        cases hx : numAt L p 8 with
                        | none =>
                          unfold rdSpc at h
                          rw [hx] at h
                          simp [sI] at h
                        | some _ => rfl
                      unfold nx8 at h4
                      rw [if_pos h8] at h4
                      unfold numAt at h4
                      split at h4
                      · rename_i hh
                        rw [HLL.out.1] at hh
                        omega
                      · cases h4
                    have hnf : ¬ (f1 = true ∧ f2 = true) := by
                      rintro ⟨h1, h2⟩
                      have g1 := HE1.out.1
                      have g2 := HE2.out.1
                      rw [h1] at g1
                      rw [h2] at g2
                      unfold nx8 at g2
                      rw [if_pos g1.symm] at g2
                      unfold numAt at g2
                      split at g2
                      · rename_i hh
                        rw [HLL.out.1] at hh
                        omega
                      · cases g2
                    obtain rfl : P = .error (p, 195) := HBAD.out hff
                    clear HBAD HPS hff HE1 HE2
                    cases f1 <;> cases f2
                    · clear hnf
                      have y0 := (HZb.out).cell (j := 0) rfl
                      have y1 := (HZb.out).cell (j := 1) rfl
                      have y2 := (HZb.out).cell (j := 2) rfl
                      have y3 := (HZb.out).cell (j := 3) rfl
                      have f0 := (HZb.out).free 0
                      have f1 := (HZb.out).free 1
                      have f2 := (HZb.out).free 2
                      have f3 := (HZb.out).free 3
                      go_wp2
                      have hy := ((((HZb.out).set 0 (.int .i64 0)).set 1 (.int .i64 0)).set 2 (.slice none 0 0)).set 3 (.slice none 0 0)
                      have k0 := hy.cell (j := 0) rfl
                      have k1 := hy.cell (j := 1) rfl
                      have k2 := hy.cell (j := 2) rfl
                      have k3 := hy.cell (j := 3) rfl
                      refine bodyPost_ret (v := .tuple #[noRF, .int .i64 (p), .int .i64 (195)]) ?_ rfl ⟨rfl, ((((HUc.out).setCell (.inr (Nat.le_refl _)) _).setCell (.inr (Nat.le_refl _)) _).setCell (.inr (Nat.le_refl _)) _).setCell (.inr (Nat.le_refl _)) _⟩
                      simp [results, Try.f29, go_sem, k0, k1, k2, k3]
                    · clear hnf
                      have y0 := (HZb.out).cell (j := 0) rfl
                      have y1 := (HZb.out).cell (j := 1) rfl
                      have y2 := (HZb.out).cell (j := 2) rfl
                      have y3 := (HZb.out).cell (j := 3) rfl
                      have f0 := (HZb.out).free 0
                      have f1 := (HZb.out).free 1
                      have f2 := (HZb.out).free 2
                      have f3 := (HZb.out).free 3
                      go_wp2
                      have hy := ((((HZb.out).set 0 (.int .i64 0)).set 1 (.int .i64 0)).set 2 (.slice none 0 0)).set 3 (.slice none 0 0)
                      have k0 := hy.cell (j := 0) rfl
                      have k1 := hy.cell (j := 1) rfl
                      have k2 := hy.cell (j := 2) rfl
                      have k3 := hy.cell (j := 3) rfl
                      refine bodyPost_ret (v := .tuple #[noRF, .int .i64 (p), .int .i64 (195)]) ?_ rfl ⟨rfl, ((((HUc.out).setCell (.inr (Nat.le_refl _)) _).setCell (.inr (Nat.le_refl _)) _).setCell (.inr (Nat.le_refl _)) _).setCell (.inr (Nat.le_refl _)) _⟩
                      simp [results, Try.f29, go_sem, k0, k1, k2, k3]
                    · clear hnf
                      have y0 := (HZb.out).cell (j := 0) rfl
                      have y1 := (HZb.out).cell (j := 1) rfl
                      have y2 := (HZb.out).cell (j := 2) rfl
                      have y3 := (HZb.out).cell (j := 3) rfl
                      have f0 := (HZb.out).free 0
                      have f1 := (HZb.out).free 1
                      have f2 := (HZb.out).free 2
                      have f3 := (HZb.out).free 3
                      go_wp2
                      have hy := ((((HZb.out).set 0 (.int .i64 0)).set 1 (.int .i64 0)).set 2 (.slice none 0 0)).set 3 (.slice none 0 0)
                      have k0 := hy.cell (j := 0) rfl
                      have k1 := hy.cell (j := 1) rfl
                      have k2 := hy.cell (j := 2) rfl
                      have k3 := hy.cell (j := 3) rfl
                      refine bodyPost_ret (v := .tuple #[noRF, .int .i64 (p), .int .i64 (195)]) ?_ rfl ⟨rfl, ((((HUc.out).setCell (.inr (Nat.le_refl _)) _).setCell (.inr (Nat.le_refl _)) _).setCell (.inr (Nat.le_refl _)) _).setCell (.inr (Nat.le_refl _)) _⟩
                      simp [results, Try.f29, go_sem, k0, k1, k2, k3]
                    · exact absurd ⟨rfl, rfl⟩ hnf
                · obtain rfl : k = n := by omega
                  have HRE := Lib.hid (show rdSpecs L k 10 [] = .ok (acc, p) by rw [HRS.out, Nat.sub_self]; rfl)
                  have HPT := Lib.hid (show P = opnT L M X (rdBands L (acc.map newB) p) by rw [HPS.out, HRE.out]; rfl)
                  have hcke : (check acc).2 = 0 := by
                    unfold check
                    rw [if_neg (by intro e; have h1 := HAC.out; have h2 := HMX.out; rw [e, List.length_nil] at h1; omega)]
                    exact HCK.out
                  have hcre : creErr acc M X = 0 := by
                    unfold creErr
                    rw [hcke, if_neg (by simp), if_neg (by have := HMX.out; omega), if_neg (by have := HMX.out; omega)]
                  have HRC := Lib.hid (rcre_ok (rb + 1 ≤ ·) (.slice A k cA) acc M X wr (own_row (enc := spcC) (fun _ => rfl) (by decide) HA.out).2 HI.out hcre)
                  have HOKS := Lib.hid (chk_all acc 0 none HCK.out)
                  clear hcke hcre HPS HRS HRE
                  go_wp2_with fail
                  refine HRC.out.mono ?_
                  rintro e1 w4 ⟨sv, hv, rfl, hS4, hH4, hU4⟩
                  obtain ⟨AS, cS, rfl, _, _, _⟩ := own_shape hS4
                  obtain ⟨AH, cH, rfl, _, _, _⟩ := own_shape hH4
                  obtain ⟨hbk, rfl, _, _⟩ := own_cell hH4 0 (.slice none 0 0) (by rw [List.getElem?_replicate, if_pos (by have := HMX.out; have := HAC.out; omega)])
                  have hUA := (Upd.refl [] w4).alloc (.cells #[.int .i64 M, .int .i64 X, .slice AS acc.length cS, .slice (some ⟨hbk, 0, none⟩) acc.length cH] TRF)
                  have HS5 := Lib.hid (own_upd hS4 hUA (by simp))
                  have HH5 := Lib.hid (own_upd hH4 hUA (by simp))
                  have HF5 := Lib.hid (HB.new w4 TRF [.int .i64 M, .int .i64 X, .slice AS acc.length cS, .slice (some ⟨hbk, 0, none⟩) acc.length cH])
                  have HUX := Lib.hid (hU4.then hUA)
                  have HR5 := Lib.hid (HR.out.upd HUX.out (by simp))
                  have HZ5 := Lib.hid (HZ'.out.upd HUX.out (by simp))
                  have HU5 := Lib.hid (HU'.out.then HUX.out)
                  have HRW := Lib.hid (show rb < wr.heap.size from HR.out.lt)
                  have HWF := Lib.hid (show w.heap.size ≠ w4.heap.size from fun e => by have := HZ'.out.lt; have := hU4.size; omega)
                  have HHK := Lib.hid (own_base hH4 hbk rfl)
                  have HN5 := Lib.hid (Nat.le_trans HUX.out.size (Nat.le_refl _))
                  clear hS4 hH4 hU4 hUA HRC
                  go_wp2_with fail
                  generalize w4.alloc (.cells #[.int .i64 M, .int .i64 X, .slice AS acc.length cS, .slice (some ⟨hbk, 0, none⟩) acc.length cH] TRF) = w5 at *
                  generalize w4.heap.size = fbx at *
                  generalize wr.heap.size = N4 at *
                  obtain ⟨RB, hRB⟩ : ∃ RB, RB = rdBands L (acc.map newB) p := ⟨_, rfl⟩
                  rw [← hRB] at HPT
                  have HRB := Lib.hid hRB
                  clear hRB
                  go_loopw [21] (fun iv wx => ∃ (j q : Nat) (bs : List Band) (hs : List Value), j ≤ k ∧ iv = .int .i64 (j : Int) ∧ bs.length = j ∧ hs.length = k ∧ (∀ i, j ≤ i → i < k → hs[i]? = some (.slice none 0 0)) ∧ (∀ (i : Nat) (b : Band) (v : Value), bs[i]? = some b → hs[i]? = some v → RowK wx (fun b => rb < b ∧ b ≠ hbk) ptR 3 v b.pts) ∧ RB = resT bs (rdBands L ((acc.drop j).map newB) q) ∧ q ≤ S0.size ∧ HB wx rb TRR [.string S0, .int .i64 (q : Nat)] ∧ HB wx fbx TRF [.int .i64 M, .int .i64 X, .slice AS acc.length cS, .slice (some ⟨hbk, 0, none⟩) acc.length cH] ∧ wx.ownsRow N4 TP 1 (.slice (some ⟨hbk, 0, none⟩) acc.length cH) acc.length hs ∧ wx.ownsRow N4 44 2 (.slice AS acc.length cS) acc.length (acc.flatMap spcC) ∧ HB wx w.heap.size TRF [.int .i64 0, .int .i64 0, .slice none 0 0, .slice none 0 0] ∧ Upd [] w wx) (fun iv _ => k - (intOf iv).toNat)
                  case atStart => exact ⟨0, p, [], List.replicate acc.length (.slice none 0 0), Nat.zero_le _, rfl, rfl, by simp [HAC.out], fun i _ hi => by rw [List.getElem?_replicate, if_pos (by have := HAC.out; omega)], fun i b v hb _ => by simp at hb, by rw [HRB.out, List.drop_zero]; cases rdBands L (acc.map newB) p <;> rfl, HPL.out, HR5.out, HF5.out, HH5.out, HS5.out, HZ5.out, HU5.out⟩
                  case round =>
                    obtain ⟨j, q, bs, hs, hj, rfl, hbl, hhl, hnil, hrow, hrd, hq, hR, hF, hH, hS, hZ, hU⟩ := hrel
                    have HBL := Lib.hid hbl
                    have HHL := Lib.hid hhl
                    have HNIL := Lib.hid hnil
                    have HROW := Lib.hid hrow
                    have HRD := Lib.hid hrd
                    have HQ := Lib.hid hq
                    have HRx := Lib.hid hR
                    have HFx := Lib.hid hF
                    have HHx := Lib.hid hH
                    have HSx := Lib.hid hS
                    have HZx := Lib.hid hZ
                    have HUx := Lib.hid hU
                    clear hbl hhl hnil hrow hrd hR hF hH hS hZ hU HR5 HF5 HH5 HS5 HZ5 HU5
                    by_cases hjk : j < k
                    · have hjI : (j : Int) < (k : Int) := by omega
                      have hk8 : k ≤ 8 := by have := HMX.out; omega
                      obtain ⟨s, hsj⟩ : ∃ s, acc[j]? = some s := ⟨_, List.getElem?_eq_getElem (by have := HAC.out; omega)⟩
                      have HRD2 := Lib.hid (show RB = resT bs (nextT L ((acc.drop (j + 1)).map newB) (rdBand L q (newB s))) by
                        rw [HRD.out, drop_cons' _ _ _ hsj, List.map_cons, rdBands_cons])
                      obtain ⟨cs, hhb⟩ := own_HB HHx.out
                      have HNH := Lib.hid (show fbx ≠ rb ∧ fbx ≠ hbk ∧ w.heap.size ≠ rb ∧ w.heap.size ≠ hbk from ⟨HFx.out.ne HRx.out (by decide), HFx.out.ne hhb (by decide), HZx.out.ne HRx.out (by decide), HZx.out.ne hhb (by decide)⟩)
                      have HSN := Lib.hid (show ∀ g, (Value.slice AS acc.length cS).ownBlock = some g → g ≠ rb ∧ g ≠ hbk from fun g hg => ⟨own_ne HSx.out HRx.out (by decide) g hg, own_ne HSx.out hhb (by decide) g hg⟩)
                      have HBL2 := Lib.hid (show rb < wr.heap.size ∧ hbk < wr.heap.size from ⟨HRx.out.lt, hhb.lt⟩)
                      have HRDC := Lib.hid (read_calls N4 fbx hbk rb acc.length cH j M X (.slice AS acc.length cS) _ acc s hs S0 q wr HFx.out HRx.out (own_rowB (enc := spcC) (fun _ => rfl) (by decide) HSx.out) (fun b hb => HSN.out b hb) hsj (HOKS.out s (List.mem_of_getElem? hsj)) HHx.out (HNIL.out j (Nat.le_refl _) hjk) (by have := HRx.out.lt; have := HBL2.out; have := own_base HHx.out hbk rfl; omega) hq (by rw [HN0.out.2]; exact HE.out.2.2))
                      rw [← HL.out] at HRDC
                      clear hsj hhb HRD
                      go_wp2_with fail
                      refine HRDC.out.mono ?_
                      intro e1 w6 hQ
                      clear HRDC
                      cases hrb : rdBand L q (newB s) with
                      | error q2 =>
                        rw [hrb] at hQ HRD2
                        obtain ⟨rfl, hU6⟩ := hQ
                        obtain rfl : P = .error (q2, 195) := by rw [HPT.out, HRD2.out]; rfl
                        have HU6 := Lib.hid (HUx.out.trans hU6 (fun _ h => h) (fun i hi => .inr (by simp at hi; have := HLR.out; have := HRW.out; have := HHK.out; omega)))
                        have HZ6 := Lib.hid (HZx.out.upd hU6 (by simp; exact HNH.out.2.2))
                        clear hU6 hrb HRD2 HPT HRB
                        have y0 := (HZ6.out).cell (j := 0) rfl
                        have y1 := (HZ6.out).cell (j := 1) rfl
                        have y2 := (HZ6.out).cell (j := 2) rfl
                        have y3 := (HZ6.out).cell (j := 3) rfl
                        have f0 := (HZ6.out).free 0
                        have f1 := (HZ6.out).free 1
                        have f2 := (HZ6.out).free 2
                        have f3 := (HZ6.out).free 3
                        go_wp2
                        have hy := ((((HZ6.out).set 0 (.int .i64 0)).set 1 (.int .i64 0)).set 2 (.slice none 0 0)).set 3 (.slice none 0 0)
                        have k0 := hy.cell (j := 0) rfl
                        have k1 := hy.cell (j := 1) rfl
                        have k2 := hy.cell (j := 2) rfl
                        have k3 := hy.cell (j := 3) rfl
                        refine bodyPost_ret (v := .tuple #[noRF, .int .i64 (q2), .int .i64 (195)]) ?_ rfl ⟨rfl, ((((HU6.out).setCell (.inr (Nat.le_refl _)) _).setCell (.inr (Nat.le_refl _)) _).setCell (.inr (Nat.le_refl _)) _).setCell (.inr (Nat.le_refl _)) _⟩
                        simp [results, Try.f29, go_sem, k0, k1, k2, k3]
                      | ok r =>
                        obtain ⟨b', q2⟩ := r
                        rw [hrb] at hQ HRD2
                        obtain ⟨rfl, v, hR6, hH6, hN6, hq6, hU6⟩ := hQ
                        have HU6 := Lib.hid hU6
                        have HR6 := Lib.hid hR6
                        have HH6 := Lib.hid hH6
                        have HN6 := Lib.hid (own_row ptR_len (by decide) hN6).2
                        have HQ6 := Lib.hid hq6
                        have HRD3 := Lib.hid (show RB = resT (bs ++ [b']) (rdBands L ((acc.drop (j + 1)).map newB) q2) by
                          rw [HRD2.out]
                          show resT bs (resT [b'] _) = _
                          rw [resT_resT])
                        have HUw := Lib.hid (HUx.out.trans hU6 (fun _ h => h) (fun i hi => .inr (by simp at hi; have := HLR.out; have := HRW.out; have := HHK.out; omega)))
                        clear hR6 hH6 hN6 hq6 hU6 hrb HRD2
                        go_wp2
                        refine ⟨⟨j + 1, q2, bs ++ [b'], hs.set j v, hjk, rfl, by simp [HBL.out], by rw [List.length_set, HHL.out], ?_, ?_, HRD3.out, HQ6.out, HR6.out, HFx.out.upd HU6.out (by simp; exact ⟨HNH.out.1, HNH.out.2.1⟩), HH6.out, own_upd HSx.out HU6.out (fun g hg hm => by have := HSN.out g hg; simp at hm; omega), HZx.out.upd HU6.out (by simp; exact HNH.out.2.2), HUw.out⟩, by simp [intOf]; omega⟩
                        · intro i hi hik
                          rw [List.getElem?_set_ne (by omega)]
                          exact HNIL.out i (by omega) hik
                        · intro i b v2 hb hv
                          by_cases hij : i < j
                          · rw [List.getElem?_append_left (by rw [HBL.out]; exact hij)] at hb
                            rw [List.getElem?_set_ne (by omega)] at hv
                            exact (HROW.out i b v2 hb hv).upd HU6.out (fun g hg hF => by simp at hg; omega)
                          · have hb2 := (List.getElem?_eq_some_iff.1 hb).1
                            rw [List.length_append, HBL.out] at hb2
                            obtain rfl : i = j := by simp at hb2; omega
                            rw [List.getElem?_append_right (by rw [HBL.out]; exact Nat.le_refl _), HBL.out, Nat.sub_self] at hb
                            simp at hb
                            subst hb
                            rw [List.getElem?_set_self (by rw [HHL.out]; exact hjk)] at hv
                            injection hv with hv
                            subst hv
                            exact HN6.out.mono (fun g hg => by have := HBL2.out; omega)
                    · obtain rfl : j = k := by omega
                      have hres : RB = .ok (bs, q) := by
                        rw [HRD.out, List.drop_of_length_le (by have := HAC.out; omega)]
                        simp [rdBands, resT]
                      have hPF : P = if q < L.length then .error (q, 195) else .ok ⟨M, X, bs⟩ := by rw [HPT.out, hres]; rfl
                      rw [HLL.out.1, ← HN0.out.2] at hPF
                      have HSPC := Lib.hid (show bs.map Band.spc = acc from (rdBands_back HLL.out.2 acc p q bs HOKS.out (by rw [HLL.out.1, ← HN0.out.2]; exact HPL.out) (by rw [← HRB.out, hres])).2.1)
                      have hrw : rb ≠ w.heap.size := by have := HLR.out; omega
                      have HN0z := Lib.hid (show S0.size ≤ 140737488355328 by rw [HN0.out.2]; exact HE.out.2.2)
                      have hs0z := HN0z.out
                      clear hres HRB HPT
                      by_cases cq : q < S0.size
                      · have d1 : decide (q < S0.size) = true := decide_eq_true cq
                        have d2 : decide ((q : Int) < (S0.size : Int)) = true := decide_eq_true (by omega)
                        obtain rfl : P = .error (q, 195) := by rw [hPF, if_pos cq]
                        have c0 := fun p : Wd [] wr => p.h.cell (HRx.out.cell (j := 0) rfl) (by simp)
                        have c1 := fun p : Wd [] wr => p.h.cell (HRx.out.cell (j := 1) rfl) (by simp)
                        clear hPF cq
                        go_wp2_with fail
                        refine mix_start (n := 10) 10 (fun w' => ∃ p : Wd [] wr, w' = p.v) (by kernel_rfl) (by kernel_rfl) ?_
                        refine mix_quiet [true, true, true, true, true, true, true, true, true, true] 0 rfl (by kernel_rfl) (by kernel_rfl) (by kernel_rfl) (by kernel_rfl) ⟨⟨_, (Upd.refl [] wr).drew⟩, rfl⟩ ?_
                        simp only [maskL]
                        repeat (go_big_quiet_step (fail))
                        refine wpQuiet_nil ?_
                        refine mix_end (by kernel_rfl) ?_
                        clear c0 c1
                        have c1 := fun p : Wd [w.heap.size] wr.drew => p.h.cell (HRx.out.drew.cell (j := 1) rfl) (by simp; exact hrw)
                        go_wp2_with fail
                        refine mix_start (n := 8) 6 (fun w' => ∃ p : Wd [w.heap.size] wr.drew, w' = p.v) (by kernel_rfl) (by kernel_rfl) ?_
                        refine mix_quiet [true, true, true, true, true] 3 rfl (by kernel_rfl) (by kernel_rfl) (by kernel_rfl) (by kernel_rfl) ⟨⟨_, (Upd.refl [w.heap.size] wr.drew).drew⟩, rfl⟩ ?_
                        simp only [maskL]
                        repeat (go_big_quiet_step (fail))
                        refine wpQuiet_nil ?_
                        clear c1
                        have HZf := Lib.hid (HZx.out.drew.drew)
                        have HUf := Lib.hid (HUx.out.drew.drew)
                        have HUk := Lib.hid ((Upd.refl [w.heap.size] wr.drew).drew)
                        generalize wr.drew.drew = wz at *
                        refine mix_one 5 (by kernel_rfl) (by kernel_rfl) rfl ?_
                        intro K QF hK
                        have y0 := (HZf.out).cell (j := 0) rfl
                        have y1 := (HZf.out).cell (j := 1) rfl
                        have y2 := (HZf.out).cell (j := 2) rfl
                        have y3 := (HZf.out).cell (j := 3) rfl
                        have f0 := (HZf.out).free 0
                        have f1 := (HZf.out).free 1
                        have f2 := (HZf.out).free 2
                        have f3 := (HZf.out).free 3
                        go_wp2_with fail
                        refine hK _ _ ⟨⟨_, ((((HUk.out).setCell (p := ⟨w.heap.size, 0, none⟩) (.inl (by simp)) _).setCell (p := ⟨w.heap.size, 1, none⟩) (.inl (by simp)) _).setCell (p := ⟨w.heap.size, 2, none⟩) (.inl (by simp)) _).setCell (p := ⟨w.heap.size, 3, none⟩) (.inl (by simp)) _⟩, rfl⟩ ?_
                        clear hK K QF
                        refine mix_tail (by kernel_rfl) (by kernel_rfl) ?_
                        simp only [List.drop_succ_cons, List.drop_zero]
                        have hy := ((((HZf.out).set 0 (.int .i64 0)).set 1 (.int .i64 0)).set 2 (.slice none 0 0)).set 3 (.slice none 0 0)
                        have k0 := hy.cell (j := 0) rfl
                        have k1 := hy.cell (j := 1) rfl
                        have k2 := hy.cell (j := 2) rfl
                        have k3 := hy.cell (j := 3) rfl
                        go_wp2
                        refine bodyPost_ret (v := .tuple #[noRF, .int .i64 (q), .int .i64 (195)]) ?_ rfl ⟨rfl, ((((HUf.out).setCell (.inr (Nat.le_refl _)) _).setCell (.inr (Nat.le_refl _)) _).setCell (.inr (Nat.le_refl _)) _).setCell (.inr (Nat.le_refl _)) _⟩
                        simp [results, Try.f29, go_sem, k0, k1, k2, k3]
                      · have d1 : decide (q < S0.size) = false := decide_eq_false cq
                        have d2 : decide ((q : Int) < (S0.size : Int)) = false := decide_eq_false (by omega)
                        obtain rfl : P = .ok ⟨M, X, bs⟩ := by rw [hPF, if_neg cq]
                        have c0 := fun p : Wd [] wr => p.h.cell (HRx.out.cell (j := 0) rfl) (by simp)
                        have c1 := fun p : Wd [] wr => p.h.cell (HRx.out.cell (j := 1) rfl) (by simp)
                        clear hPF cq
                        go_wp2_with fail
                        refine mix_start (n := 10) 10 (fun w' => ∃ p : Wd [] wr, w' = p.v) (by kernel_rfl) (by kernel_rfl) ?_
                        refine mix_quiet [true, true, true, true, true, true, true, true, true, true] 0 rfl (by kernel_rfl) (by kernel_rfl) (by kernel_rfl) (by kernel_rfl) ⟨⟨_, (Upd.refl [] wr).drew⟩, rfl⟩ ?_
                        simp only [maskL]
                        repeat (go_big_quiet_step (fail))
                        refine wpQuiet_nil ?_
                        refine mix_end (by kernel_rfl) ?_
                        clear c0 c1
                        have HFz := Lib.hid HFx.out.drew
                        have HZz := Lib.hid HZx.out.drew
                        have HUz := Lib.hid HUx.out.drew
                        have HUzz := Lib.hid (Upd.refl [] wr).drew
                        have HSz := Lib.hid (own_upd HSx.out HUzz.out (by simp))
                        have HHz := Lib.hid (own_upd HHx.out HUzz.out (by simp))
                        generalize wr.drew = wz at *
                        have a0 := HFz.out.cell (j := 0) rfl
                        have a1 := HFz.out.cell (j := 1) rfl
                        have a2 := HFz.out.cell (j := 2) rfl
                        have a3 := HFz.out.cell (j := 3) rfl
                        have y0 := HZz.out.cell (j := 0) rfl
                        have y1 := HZz.out.cell (j := 1) rfl
                        have y2 := HZz.out.cell (j := 2) rfl
                        have y3 := HZz.out.cell (j := 3) rfl
                        have f0 := HZz.out.free 0
                        have f1 := HZz.out.free 1
                        have f2 := HZz.out.free 2
                        have f3 := HZz.out.free 3
                        have hfw : w.heap.size ≠ fbx := HWF.out
                        have hn1 : ¬ (w.heap.size = fbx) := by omega
                        have hn2 : ¬ (fbx = w.heap.size) := by omega
                        go_wp2
                        have hy := (((HZz.out.set 0 (.int .i64 M)).set 1 (.int .i64 X)).set 2 (.slice AS acc.length cS)).set 3 (.slice (some ⟨hbk, 0, none⟩) acc.length cH)
                        have k0 := hy.cell (j := 0) rfl
                        have k1 := hy.cell (j := 1) rfl
                        have k2 := hy.cell (j := 2) rfl
                        have k3 := hy.cell (j := 3) rfl
                        have hUU := (((((Upd.refl [w.heap.size] wz)).setCell (p := ⟨w.heap.size, 0, none⟩) (.inl (by simp)) (.int .i64 M)).setCell (p := ⟨w.heap.size, 1, none⟩) (.inl (by simp)) (.int .i64 X)).setCell (p := ⟨w.heap.size, 2, none⟩) (.inl (by simp)) (.slice AS acc.length cS)).setCell (p := ⟨w.heap.size, 3, none⟩) (.inl (by simp)) (.slice (some ⟨hbk, 0, none⟩) acc.length cH)
                        have hlen : bs.length = acc.length := by have := HBL.out; have := HAC.out; omega
                        refine bodyPost_ret (v := .tuple #[.agg #[.int .i64 M, .int .i64 X, .slice AS acc.length cS, .slice (some ⟨hbk, 0, none⟩) acc.length cH], .int .i64 0, .int .i64 0]) ?_ rfl ⟨.slice AS acc.length cS, .slice (some ⟨hbk, 0, none⟩) acc.length cH, hs, rfl, ?_, ?_, ?_, HUz.out.trans hUU (fun _ h => h) (fun i hi => .inr (by simp at hi; omega))⟩
                        · simp [results, Try.f29, go_sem, k0, k1, k2, k3]
                        · show World.ownsRow _ _ _ _ _ bs.length ((bs.map Band.spc).flatMap spcC)
                          rw [HSPC.out, hlen]
                          exact own_base_mono (own_upd HSz.out hUU (fun g hg hm => by have := own_base HSx.out g hg; have := HRW.out; have := HLR.out; simp at hm; omega)) (by have := HRW.out; have := HLR.out; omega)
                        · show World.ownsRow _ _ _ _ _ bs.length hs
                          rw [hlen]
                          exact own_base_mono (own_upd HHz.out hUU (fun g hg hm => by have := own_base HHx.out g hg; have := HRW.out; have := HLR.out; simp at hm; omega)) (by have := HRW.out; have := HLR.out; omega)
                        · intro i b v hb hv
                          exact ((HROW.out i b v hb hv).upd0 HUzz.out |>.upd hUU (fun g hg hF => by simp at hg; have := HLR.out; omega)).mono (fun g hg => by have := HLR.out; omega)
      · obtain rfl : P = .error (e, 196) := by rw [HPP.out, if_neg ct]
        have dt : (T4.toList == S4.toList) = false := by rw [toList_beq]; exact decide_eq_false ct
        rw [dt, Bool.not_false]
        clear HPP ct
        have y0 := (HZq.out).cell (j := 0) rfl
        have y1 := (HZq.out).cell (j := 1) rfl
        have y2 := (HZq.out).cell (j := 2) rfl
        have y3 := (HZq.out).cell (j := 3) rfl
        have f0 := (HZq.out).free 0
        have f1 := (HZq.out).free 1
        have f2 := (HZq.out).free 2
        have f3 := (HZq.out).free 3
        go_wp2
        have hy := ((((HZq.out).set 0 (.int .i64 0)).set 1 (.int .i64 0)).set 2 (.slice none 0 0)).set 3 (.slice none 0 0)
        have k0 := hy.cell (j := 0) rfl
        have k1 := hy.cell (j := 1) rfl
        have k2 := hy.cell (j := 2) rfl
        have k3 := hy.cell (j := 3) rfl
        refine bodyPost_ret (v := .tuple #[noRF, .int .i64 (e), .int .i64 (196)]) ?_ rfl ⟨rfl, ((((HUq.out).setCell (.inr (Nat.le_refl _)) _).setCell (.inr (Nat.le_refl _)) _).setCell (.inr (Nat.le_refl _)) _).setCell (.inr (Nat.le_refl _)) _⟩
        simp [results, Try.f29, go_sem, k0, k1, k2, k3]
    · rw [decide_eq_false c1] at hT
      obtain rfl : P = .error (0, 195) := by rw [HP.out]; unfold openP; rw [if_neg (by omega), if_pos c1]
      have h4 : 4 ≤ S.size := by omega
      clear HP c0 c1
      go_enter Try.func29, Try.ntmps29
      have y0 := (HZ.out).cell (j := 0) rfl
      have y1 := (HZ.out).cell (j := 1) rfl
      have y2 := (HZ.out).cell (j := 2) rfl
      have y3 := (HZ.out).cell (j := 3) rfl
      have f0 := (HZ.out).free 0
      have f1 := (HZ.out).free 1
      have f2 := (HZ.out).free 2
      have f3 := (HZ.out).free 3
      go_wp2
      refine bodyPost_ret (v := .tuple #[noRF, .int .i64 0, .int .i64 195]) ?_ rfl ⟨rfl, HU.out⟩
      simp [results, Try.f29, go_sem, y0, y1, y2, y3]
end Go.Proofs.Ytdjpcinibgbglaa
