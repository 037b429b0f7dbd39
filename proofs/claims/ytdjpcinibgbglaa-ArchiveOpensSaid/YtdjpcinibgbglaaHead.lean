/- (*reader).head. -/
import Derived.Test.YtdjpcinibgbglaaPnt
import Derived.Test.YtdjpcinibgbglaaCreNo
import Derived.WalkSpells
import Derived.OwnWalk
set_option linter.unusedVariables false
set_option linter.unusedSimpArgs false
namespace Go.Proofs.Ytdjpcinibgbglaa
open Go.RowKit Go.Sort
def nx4 (l : List Int) (p : Nat) : Nat := if (numAt l p 4).isSome = true then p + 4 else p
theorem nx4_le {l : List Int} {p : Nat} (hp : p ≤ l.length) : nx4 l p ≤ l.length := by
  unfold nx4 numAt
  split <;> simp_all
def rdSpc (l : List Int) (p : Nat) : Spc := (sI ((numAt l p 8).getD 0), (numAt l (nx8 l p) 4).getD 0)
def rdSpecs (l : List Int) : Nat → Nat → List Spc → Except Nat (List Spc × Nat)
  | 0, p, acc => .ok (acc, p)
  | n + 1, p, acc => if (numAt l (nx8 l p) 4).isSome = true ∧ fitsS (rdSpc l p) acc.getLast? = true then rdSpecs l n (nx4 l (nx8 l p)) (acc ++ [rdSpc l p]) else .error p
theorem rdSpecs_succ (l : List Int) (n p : Nat) (acc : List Spc) : rdSpecs l (n + 1) p acc = if (numAt l (nx8 l p) 4).isSome = true ∧ fitsS (rdSpc l p) acc.getLast? = true then rdSpecs l n (nx4 l (nx8 l p)) (acc ++ [rdSpc l p]) else .error p := rfl
def headT (m x : Int) : Except Nat (List Spc × Nat) → Except Nat (List Spc × Int × Int × Nat)
  | .error p => .error p
  | .ok (s, p) => .ok (s, m, x, p)
def headQ (l : List Int) (M N X : Int) : Except Nat (List Spc × Int × Int × Nat) :=
  if M < 1 ∨ 5 < M then .error 4 else if N < 1 ∨ 8 < N then .error 5 else if 1000000 < X then .error 6 else headT M X (rdSpecs l N.toNat 10 [])
def headP (l : List Int) : Except Nat (List Spc × Int × Int × Nat) := headQ l ((numAt l 4 1).getD 0) ((numAt l 5 1).getD 0) ((numAt l 6 4).getD 0)
theorem chk_snoc (s : Spc) : ∀ (acc : List Spc) (i : Nat) (p : Option Spc), (chk i p acc).2 = 0 → i + acc.length < 8 → fitsS s (acc.getLast?.or p) = true → (chk i p (acc ++ [s])).2 = 0 := by
  intro acc
  induction acc with
  | nil =>
    intro i p _ h8 hf
    simp only [List.getLast?_nil, Option.none_or] at hf
    simp only [List.length_nil] at h8
    simp only [List.nil_append, chk, hf]
    rw [if_neg (by simp; omega)]
  | cons y l ih =>
    intro i p h h8 hf
    simp only [List.length_cons] at h8
    have h1 := chk_step h
    rw [List.getLast?_cons] at hf
    have h2 := ih (i + 1) (some y) h1.2 (by omega) (by
      cases h : l.getLast? with
      | none => simpa [h] using hf
      | some a => simpa [h] using hf)
    simp only [List.cons_append, chk]
    rw [if_neg (by simp [h1.1]; omega)]
    exact h2
theorem check_snoc {acc : List Spc} {s : Spc} (h : (chk 0 none acc).2 = 0) (h8 : acc.length < 8) (hf : fitsS s acc.getLast? = true) : (chk 0 none (acc ++ [s])).2 = 0 := chk_snoc s acc 0 none h (by omega) (by rw [Option.or_none]; exact hf)
theorem fits_ok {s : Spc} {p : Option Spc} (h : fitsS s p = true) : okSpc s = true := by
  cases p with
  | none => exact h
  | some a => simp only [fitsS, Bool.and_eq_true] at h; exact h.1
theorem num4_bd {l : List Int} (hb : Byt l) (p : Nat) : 0 ≤ (numAt l p 4).getD 0 ∧ (numAt l p 4).getD 0 ≤ 4294967295 := by
  unfold numAt
  split
  · rename_i h
    have h1 := num_bd ((l.drop p).take 4) (fun y hy => hb y (List.mem_of_mem_drop (List.mem_of_mem_take hy)))
    have h2 : ((l.drop p).take 4).length = 4 := by rw [List.length_take, List.length_drop]; omega
    rw [h2] at h1
    simp only [Option.getD_some]
    have : (256 : Int) ^ 4 = 4294967296 := by decide
    omega
  · exact ⟨by decide, by decide⟩
theorem num1_bd {l : List Int} (hb : Byt l) (p : Nat) : 0 ≤ (numAt l p 1).getD 0 ∧ (numAt l p 1).getD 0 ≤ 255 := by
  unfold numAt
  split
  · rename_i h
    have h1 := num_bd ((l.drop p).take 1) (fun y hy => hb y (List.mem_of_mem_drop (List.mem_of_mem_take hy)))
    have h2 : ((l.drop p).take 1).length = 1 := by rw [List.length_take, List.length_drop]; omega
    rw [h2] at h1
    simp only [Option.getD_some]
    have : (256 : Int) ^ 1 = 256 := by decide
    omega
  · exact ⟨by decide, by decide⟩
theorem infoSp : (Try.prog.info? 44).map (fun i => (i.zero, i.size, i.bytes)) = some (some (.agg #[.int .i64 0, .int .i64 0]), 2, 16) := by kernel_rfl
theorem wrap64_small {n : Int} (h : 0 ≤ n ∧ n ≤ 4294967295) : IntKind.i64.wrap n = n := by
  have : sI n = n := by unfold sI; rw [if_pos (by omega)]
  rw [sI_wrap ⟨h.1, by omega⟩, this]
set_option maxRecDepth 20000 in
set_option maxHeartbeats 4000000 in
theorem head_calls (F : Nat → Prop) (rb : Nat) (sl : Value) (l : List Int) (p0 : Int) (w : World) (hB : HB w rb 123 [sl, .int .i64 p0]) (hr : RowK w F bc 1 sl l) (hb : Byt l) (h10 : 10 ≤ l.length) (hl : l.length ≤ 140737488355328) (hF : ¬ F rb) :
    Calls Try.prog 53 #[.pointer (some ⟨rb, 0, none⟩)] w fun e w' => match headP l with
      | .error p => e = .returned (.tuple #[.pointer none, .int .i64 (p : Nat), .int .i64 195]) ∧ Upd [rb] w w'
      | .ok (s, m, x, p) => ∃ (base fb : Nat) (bv : Value) (Ls : List Loc), e = .returned (.tuple #[.pointer (some ⟨fb, 0, none⟩), .int .i64 0, .int .i64 0]) ∧ w.heap.size ≤ base ∧ base ≤ fb ∧ FileAt w' base fb (newF s m x) bv Ls ∧ (check s).2 = 0 ∧ (1 ≤ m ∧ m ≤ 5) ∧ (0 ≤ x ∧ x ≤ 1000000) ∧ p ≤ l.length ∧ HB w' rb 123 [sl, .int .i64 (p : Nat)] ∧ Upd [rb] w w' := by
  obtain ⟨P, hP⟩ : ∃ P, P = headP l := ⟨_, rfl⟩
  rw [← hP]
  obtain ⟨M, hM⟩ : ∃ M, numAt l 4 1 = some M := by unfold numAt; exact ⟨_, if_pos (by omega)⟩
  obtain ⟨N, hN⟩ : ∃ N, numAt l 5 1 = some N := by unfold numAt; exact ⟨_, if_pos (by omega)⟩
  obtain ⟨X, hX⟩ : ∃ X, numAt l 6 4 = some X := by unfold numAt; exact ⟨_, if_pos (by omega)⟩
  have hPQ : P = headQ l M N X := by rw [hP]; unfold headP; rw [hM, hN, hX]; rfl
  have hMb := num1_bd hb 4
  have hNb := num1_bd hb 5
  have hXb := num4_bd hb 6
  rw [hM] at hMb
  rw [hN] at hNb
  rw [hX] at hXb
  simp only [Option.getD_some] at hMb hNb hXb
  have H4 := Lib.hid (fun W (h1 : HB W rb 123 [sl, .int .i64 ((4 : Nat) : Int)]) (h2 : RowK W F bc 1 sl l) => show Calls Try.prog 52 #[.pointer (some ⟨rb, 0, none⟩), .int .i64 1] W fun e w' => e = .returned (.tuple #[.int .u64 M, .bool true]) ∧ HB w' rb 123 [sl, .int .i64 ((5 : Nat) : Int)] ∧ Upd [rb] W w' by
    have h := number_calls F rb sl l 4 1 W h1 h2 hb (by omega) (by omega) (by omega) hl hF
    rw [hM] at h
    exact h)
  have H5 := Lib.hid (fun W (h1 : HB W rb 123 [sl, .int .i64 ((5 : Nat) : Int)]) (h2 : RowK W F bc 1 sl l) => show Calls Try.prog 52 #[.pointer (some ⟨rb, 0, none⟩), .int .i64 1] W fun e w' => e = .returned (.tuple #[.int .u64 N, .bool true]) ∧ HB w' rb 123 [sl, .int .i64 ((6 : Nat) : Int)] ∧ Upd [rb] W w' by
    have h := number_calls F rb sl l 5 1 W h1 h2 hb (by omega) (by omega) (by omega) hl hF
    rw [hN] at h
    exact h)
  have H6 := Lib.hid (fun W (h1 : HB W rb 123 [sl, .int .i64 ((6 : Nat) : Int)]) (h2 : RowK W F bc 1 sl l) => show Calls Try.prog 52 #[.pointer (some ⟨rb, 0, none⟩), .int .i64 4] W fun e w' => e = .returned (.tuple #[.int .u64 X, .bool true]) ∧ HB w' rb 123 [sl, .int .i64 ((10 : Nat) : Int)] ∧ Upd [rb] W w' by
    have h := number_calls F rb sl l 6 4 W h1 h2 hb (by omega) (by omega) (by omega) hl hF
    rw [hX] at h
    exact h)
  have HNC := Lib.hid (fun q k W (hk : k ≤ 8) (h1 : HB W rb 123 [sl, .int .i64 (q : Nat)]) (h2 : RowK W F bc 1 sl l) (h3 : q ≤ l.length) => number_calls F rb sl l q k W h1 h2 hb hk h3 (by omega) hl hF)
  have HP := Lib.hid hPQ
  have HR := Lib.hid hr
  have HBY := Lib.hid hb
  have HBR := Lib.hid hB
  have HF := Lib.hid hF
  have y1 := hB.free 1
  have y0 := hB.cell (j := 1) rfl
  have hwM := wrap64_small ⟨hMb.1, by omega⟩
  have hwX := wrap64_small hXb
  clear hPQ hP hM hN hX hr hb hB hF
  go_enter Try.func53, Try.ntmps53
  go_wp2_with fail
  refine (H4.out _ (show HB _ rb _ [sl, .int .i64 ((4 : Nat) : Int)] from HBR.out.set 1 (.int .i64 4)) (rowK_ne HR.out HF.out ((Upd.refl [rb] w).setCell (.inl (by simp)) _))).mono ?_
  rintro e w1 ⟨rfl, hB1, hU1⟩
  have HU1 := Lib.hid (show Upd [rb] w w1 from ((Upd.refl [rb] w).setCell (p := ⟨rb, 1, none⟩) (.inl (by simp)) (.int .i64 4)).trans hU1 (fun _ h => h) (fun _ h => .inl h))
  have HB1 := Lib.hid hB1
  clear hB1 hU1 y1 y0
  go_wp2_with fail
  refine (H5.out _ HB1.out (rowK_ne HR.out HF.out HU1.out)).mono ?_
  rintro e w2 ⟨rfl, hB2, hU2⟩
  have HU2 := Lib.hid (HU1.out.trans hU2 (fun _ h => h) (fun _ h => .inl h))
  have HB2 := Lib.hid hB2
  clear hB2 hU2
  go_wp2_with fail
  refine (H6.out _ HB2.out (rowK_ne HR.out HF.out HU2.out)).mono ?_
  rintro e w3 ⟨rfl, hB3, hU3⟩
  have HU3 := Lib.hid (HU2.out.trans hU3 (fun _ h => h) (fun _ h => .inl h))
  have HB3 := Lib.hid hB3
  clear hB3 hU3
  by_cases cM : M < 1 ∨ 5 < M
  · obtain rfl : P = .error 4 := by rw [HP.out]; unfold headQ; rw [if_pos cM]
    have HRO := Lib.hid (rolled_none M w3 cM)
    have hnn := nil_nil w3
    clear HP cM
    go_wp2_with fail
    refine HRO.out.mono ?_
    rintro e w4 ⟨rfl, rfl⟩
    go_wp2
    go_ret3
    exact ⟨rfl, HU3.out⟩
  · have HRO := Lib.hid (rolled_calls M w3 (by omega))
    obtain ⟨g, hg⟩ : ∃ g, g = rollF M := ⟨_, rfl⟩
    unfold rollV at HRO
    rw [← hg] at HRO
    have hfn := fn_nil g w3
    clear hg
    by_cases cN : N < 1 ∨ 8 < N
    · obtain rfl : P = .error 5 := by rw [HP.out]; unfold headQ; rw [if_neg cM, if_pos cN]
      clear HP
      by_cases cN1 : N < 1
      · have d1 : decide (N < 1) = true := decide_eq_true cN1
        go_wp2_with fail
        refine HRO.out.mono ?_
        rintro e w4 ⟨rfl, rfl⟩
        go_wp2
        go_ret3
        exact ⟨rfl, HU3.out⟩
      · have d1 : decide (N < 1) = false := decide_eq_false cN1
        have d2 : decide (8 < N) = true := decide_eq_true (by omega)
        go_wp2_with fail
        refine HRO.out.mono ?_
        rintro e w4 ⟨rfl, rfl⟩
        go_wp2
        go_ret3
        exact ⟨rfl, HU3.out⟩
    · have d1 : decide (N < 1) = false := decide_eq_false (by omega)
      have d2 : decide (8 < N) = false := decide_eq_false (by omega)
      by_cases cX : 1000000 < X
      · obtain rfl : P = .error 6 := by rw [HP.out]; unfold headQ; rw [if_neg cM, if_neg cN, if_pos cX]
        have d3 : decide (1000000 < X) = true := decide_eq_true cX
        clear HP
        go_wp2_with fail
        refine HRO.out.mono ?_
        rintro e w4 ⟨rfl, rfl⟩
        go_wp2
        go_ret3
        exact ⟨rfl, HU3.out⟩
      · have d3 : decide (1000000 < X) = false := decide_eq_false cX
        have HPS : Hid (P = headT M X (rdSpecs l N.toNat 10 [])) := Lib.hid (by rw [HP.out]; unfold headQ; rw [if_neg cM, if_neg cN, if_neg cX])
        have hM5 : 1 ≤ M ∧ M ≤ 5 := by omega
        obtain ⟨k, rfl⟩ : ∃ k : Nat, N = (k : Int) := ⟨N.toNat, by omega⟩
        have hk8 : 1 ≤ k ∧ k ≤ 8 := by omega
        have HPT : Hid (P = headT M X (rdSpecs l k 10 [])) := HPS
        have HM5 := Lib.hid hM5
        have HX6 := Lib.hid (show 0 ≤ X ∧ X ≤ 1000000 by omega)
        have hrb := HBR.out.lt
        have HRB := Lib.hid hrb
        clear HP HPS cM cN cX hM5 hrb
        go_wp2_with fail
        refine HRO.out.mono ?_
        rintro e w4 ⟨rfl, rfl⟩
        clear HRO
        go_wp2_with fail
        clear hfn d1 d2 d3
        go_loopw [11, 54] (fun v iv wr => ∃ (j p : Nat) (acc : List Spc), j ≤ k ∧ iv = .int .u64 (j : Int) ∧ acc.length = j ∧ rdSpecs l k 10 [] = rdSpecs l (k - j) p acc ∧ (chk 0 none acc).2 = 0 ∧ (∀ a ∈ acc, okSpc a = true ∧ I64S a) ∧ p ≤ l.length ∧ HB wr rb 123 [sl, .int .i64 (p : Nat)] ∧ wr.ownsRow w.heap.size 44 2 v j (acc.flatMap spcC) ∧ Upd [rb] w wr) (fun _ iv _ => k - (intOf iv).toNat)
        case atStart => exact ⟨0, 10, [], Nat.zero_le _, rfl, rfl, rfl, rfl, by simp, h10, HB3.out, ⟨rfl, .inl ⟨rfl, rfl⟩⟩, HU3.out⟩
        case round =>
          obtain ⟨j, p, acc, hj, rfl, hal, hrd, hck, hok, hp, hBr, hO, hU⟩ := hrel
          have HAL := Lib.hid hal
          have HRD := Lib.hid hrd
          have HCK := Lib.hid hck
          have HOK := Lib.hid hok
          have HBr := Lib.hid hBr
          have HO := Lib.hid hO
          have HU := Lib.hid hU
          have HRW := Lib.hid (own_row (enc := spcC) (xs := acc) (fun _ => rfl) (by decide) hO).2
          by_cases hjk : j < k
          · have hji : (j : Int) < (k : Int) := by omega
            have r1 := hBr.cell (j := 1) rfl
            obtain ⟨B, q, rfl, hc1, hc2, hc3⟩ := own_shape hO
            have hbl := fun g hg => own_base hO g hg
            have HNB := Lib.hid (fun (g : Nat) (hg : Value.ownBlock (.slice B j q) = some g) => show g ∉ [rb] by
              have h1 := hbl g hg
              have h2 := HRB.out
              simp
              omega)
            have HBL := Lib.hid hbl
            have hp2 := nx8_le hp
            have HP1 := Lib.hid hp
            clear hal hrd hck hok hBr hO hU hc1 hc2 hc3 hbl hp
            go_wp2_with fail
            refine (HNC.out p 8 _ (by omega) HBr.out (rowK_ne HR.out HF.out HU.out) HP1.out).mono ?_
            rintro e w5 ⟨rfl, hB5, hU5⟩
            have HB5 := Lib.hid (show HB w5 rb 123 [sl, .int .i64 ((nx8 l p : Nat) : Int)] from hB5)
            have HU5 := Lib.hid (HU.out.trans hU5 (fun _ h => h) (fun _ h => .inl h))
            have HO5 := Lib.hid (own_upd HO.out hU5 HNB.out)
            obtain ⟨S0, hS0⟩ : ∃ S0, S0 = (numAt l p 8).getD 0 := ⟨_, rfl⟩
            obtain ⟨o1, ho1⟩ : ∃ o1, o1 = (numAt l p 8).isSome := ⟨_, rfl⟩
            rw [← hS0, ← ho1]
            have HS0 := Lib.hid hS0
            clear hB5 hU5 hS0 ho1 r1
            go_wp2_with fail
            refine (HNC.out (nx8 l p) 4 _ (by omega) HB5.out (rowK_ne HR.out HF.out HU5.out) hp2).mono ?_
            rintro e w6 ⟨rfl, hB6, hU6⟩
            have HB6 := Lib.hid (show HB w6 rb 123 [sl, .int .i64 ((nx4 l (nx8 l p) : Nat) : Int)] from hB6)
            have HU6 := Lib.hid (HU5.out.trans hU6 (fun _ h => h) (fun _ h => .inl h))
            have HO6 := Lib.hid (own_upd HO5.out hU6 HNB.out)
            have HP3 := Lib.hid (nx4_le hp2)
            obtain ⟨C0, hC0⟩ : ∃ C0, C0 = (numAt l (nx8 l p) 4).getD 0 := ⟨_, rfl⟩
            obtain ⟨o2, ho2⟩ : ∃ o2, o2 = (numAt l (nx8 l p) 4).isSome := ⟨_, rfl⟩
            rw [← hC0, ← ho2]
            have hwC : IntKind.i64.wrap C0 = C0 := wrap64_small (by rw [hC0]; exact num4_bd HBY.out _)
            have hwS : IntKind.i64.wrap S0 = sI S0 := sI_wrap (by rw [HS0.out]; exact numAt_u HBY.out _)
            have HIS := Lib.hid (show I64S (sI S0, C0) from ⟨sI_I64 (by rw [HS0.out]; exact numAt_u HBY.out _), by
              have h1 := num4_bd HBY.out (nx8 l p)
              rw [← hC0] at h1
              unfold I64
              simp only
              omega⟩)
            obtain ⟨st, hst⟩ : ∃ st, st = sI S0 := ⟨_, rfl⟩
            rw [← hst] at hwS HIS
            have HSP := Lib.hid (show rdSpc l p = (st, C0) by unfold rdSpc; rw [← HS0.out, ← hC0, ← hst])
            have HO2 := Lib.hid ho2
            obtain ⟨W7, hW7⟩ : ∃ W7, W7 = w6.alloc (.cells #[.int .i64 st, .int .i64 C0] 44) := ⟨_, rfl⟩
            have hV7 : HB W7 w6.heap.size 44 (spcC (st, C0)) := by rw [hW7]; exact HB.new w6 44 (spcC (st, C0))
            have HU67 := Lib.hid (show Upd [] w6 W7 by rw [hW7]; exact (Upd.refl _ _).alloc _)
            have HRD2 := Lib.hid (show rdSpecs l k 10 [] = if o2 = true ∧ fitsS (st, C0) acc.getLast? = true then rdSpecs l (k - (j + 1)) (nx4 l (nx8 l p)) (acc ++ [(st, C0)]) else .error p by
              rw [HRD.out, show k - j = (k - (j + 1)) + 1 by omega]
              rw [rdSpecs_succ, HSP.out, ← ho2])
            clear hB6 hU6 hC0 hst ho2
            cases o2 with
            | false =>
              have PP : P = .error p := by rw [HPT.out, HRD2.out, if_neg (by simp)]; rfl
              clear HPT HRD2
              subst PP
              go_wp2
              go_ret3
              exact ⟨rfl, HU6.out.then0 ((Upd.refl [] w6).alloc _)⟩
            | true =>
              have HFI := Lib.hid (fits_calls (st, C0) (w.heap.size ≤ ·) (.slice B j q) acc W7 ((own_row (enc := spcC) (xs := acc) (fun _ => rfl) (by decide) HO6.out).2.upd HU67.out (by simp)) HIS.out (fun a ha => (HOK.out a (List.mem_of_getLast? ha)).1))
              obtain ⟨ff, hff⟩ : ∃ ff, ff = fitsS (st, C0) acc.getLast? := ⟨_, rfl⟩
              rw [← hff] at HFI HRD2
              have HFF := Lib.hid hff
              have v0 := hV7.cell (j := 0) rfl
              have v1 := hV7.cell (j := 1) rfl
              have HV7 := Lib.hid hV7
              clear hff hV7
              cases ff with
              | false =>
                have PP : P = .error p := by rw [HPT.out, HRD2.out, if_neg (by simp)]; rfl
                clear HPT HRD2
                subst PP
                go_wp2_with fail
                rw [← hW7]
                clear hW7
                go_wp2_with fail
                refine HFI.out.mono ?_
                rintro e w8 ⟨rfl, hU8⟩
                go_wp2
                go_ret3
                exact ⟨rfl, HU6.out.then0 (HU67.out.then hU8)⟩
              | true =>
                have HRD3 := Lib.hid (show rdSpecs l k 10 [] = rdSpecs l (k - (j + 1)) (nx4 l (nx8 l p)) (acc ++ [(st, C0)]) by rw [HRD2.out, if_pos ⟨rfl, rfl⟩])
                clear HRD2
                go_wp2_with fail
                rw [← hW7]
                clear hW7
                go_wp2_with fail
                refine HFI.out.mono ?_
                rintro e w8 ⟨rfl, hU8⟩
                have HU68 := Lib.hid (HU67.out.then hU8)
                have HV8 := Lib.hid (HV7.out.upd hU8 (by simp))
                have u0 := HV8.out.cell (j := 0) rfl
                have u1 := HV8.out.cell (j := 1) rfl
                have HN := Lib.hid (HB.new w8 44 (spcC (st, C0)))
                have HO8 := Lib.hid (own_upd HO6.out HU68.out (by simp))
                have HS8 := Lib.hid (HU6.out.then0 HU68.out).size
                have hwj : IntKind.u64.wrap ((j : Int) + 1) = (j : Int) + 1 := by simp [IntKind.wrap, IntKind.bits, IntKind.signed]; omega
                clear hU8 v0 v1
                go_wp2_with (at_builtin; go_must (refine wp_append1 w.heap.size 22 44 _ 2 16 (.slice B j q) j _ (spcC (st, C0)) _ rfl rfl (by kernel_rfl) infoSp rfl (by decide) (by decide) rfl rfl rfl (by intro u hu; simp at hu; rcases hu with rfl | rfl <;> rfl) (own_upd HO8.out ((Upd.refl [] w8).alloc _) (by simp)) HN.out (by have := HS8.out; simp; omega) (by omega) ?_))
                intro v9 w9 hown9 hU9 hat9
                have HO9 := Lib.hid hown9
                have HU9 := Lib.hid hU9
                clear hown9 hU9 hat9 u0 u1
                go_wp2
                have hbb : ∀ g, Value.ownBlock (.slice B j q) = some g → w.heap.size ≤ g := HBL.out
                have hUf : Upd [] w8 w9 ∨ True := .inr trivial
                refine ⟨⟨j + 1, nx4 l (nx8 l p), acc ++ [(st, C0)], by omega, rfl, by rw [List.length_append, HAL.out]; rfl, HRD3.out, check_snoc HCK.out (by rw [HAL.out]; omega) HFF.out.symm, ?_, HP3.out, ?_, ?_, ?_⟩, by show k - ((j : Int) + 1).toNat < k - (j : Int).toNat; omega⟩
                · intro a ha
                  rcases List.mem_append.1 ha with ha | ha
                  · exact HOK.out a ha
                  · simp at ha
                    subst ha
                    exact ⟨fits_ok HFF.out.symm, HIS.out⟩
                · exact ((HB6.out.upd HU68.out (by simp)).alloc _).upd HU9.out (fun hm => by
                    have h1 := HBL.out rb (by simpa using hm)
                    have h2 := HRB.out
                    omega)
                · rw [List.flatMap_append]
                  simpa using HO9.out
                · exact (HU6.out.then0 (HU68.out.alloc _)).trans HU9.out (fun _ h => h) (fun i hi => .inr (HBL.out i (by simpa using hi)))
          · obtain rfl : j = k := by omega
            have hPP : P = .ok (acc, M, X, p) := by
              rw [HPT.out, hrd, Nat.sub_self]
              rfl
            have hne : acc ≠ [] := by
              intro e
              rw [e] at hal
              simp at hal
              omega
            have HCH := Lib.hid (show (check acc).2 = 0 by unfold check; rw [if_neg hne]; exact hck)
            have HP1 := Lib.hid hp
            have HCR := Lib.hid (create_ok (w.heap.size ≤ ·) _ acc M X wr HRW.out (fun s hs => (HOK.out s hs).2) HCH.out HM5.out HX6.out)
            clear hal hrd hck hok hBr hO hU hne hp HPT HRD
            subst hPP
            go_wp2_with fail
            refine HCR.out.mono ?_
            rintro e w5 ⟨fb, bv, Ls, rfl, hfb, hfile, hU5⟩
            have HFL := Lib.hid hfile
            have HU5 := Lib.hid hU5
            have HFB := Lib.hid hfb
            clear hfile hU5 hfb
            go_wp2
            go_ret3
            exact ⟨wr.heap.size, fb, rfl, HU.out.size, HFB.out, ⟨bv, Ls, HFL.out⟩, HCH.out, HM5.out, HX6.out.2, HP1.out, HBr.out.upd HU5.out (by simp), HU.out.then0 HU5.out⟩
end Go.Proofs.Ytdjpcinibgbglaa
