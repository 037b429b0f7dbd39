/- Plain: what Open reads is what Bytes writes (openP l = .ok f gives f.bytes = l). -/
import Derived.Test.YtdjpcinibgbglaaROpP
import Derived.Test.YtdjpcinibgbglaaLawBB
set_option linter.unusedVariables false
set_option linter.unusedSimpArgs false
namespace Go.Proofs.Ytdjpcinibgbglaa
open Go.RowKit Go.Sort
theorem fold_num : ∀ (xs : List Int) (a : Int), xs.foldl (fun n c => n * 256 + c) a = a * 256 ^ xs.length + num xs := by
  intro xs
  induction xs with
  | nil => intro a; simp [num]
  | cons x xs ih =>
    intro a
    have h1 := ih (a * 256 + x)
    have h2 := ih (0 * 256 + x)
    unfold num
    rw [List.foldl_cons, List.foldl_cons, h1, h2, List.length_cons, Int.pow_succ]
    simp only [Int.add_mul, Int.zero_mul, Int.zero_add, Int.mul_assoc, Int.mul_comm, Int.mul_left_comm, Int.add_assoc]
theorem num_cons (x : Int) (xs : List Int) : num (x :: xs) = x * 256 ^ xs.length + num xs := by
  have h := fold_num xs (0 * 256 + x)
  unfold num at h ⊢
  rw [List.foldl_cons, h]
  simp
theorem highL_mod (a r : Int) (k : Nat) : ∀ j, j ≤ k → highL (a * 256 ^ k + r) j = highL r j
  | 0, _ => rfl
  | j + 1, h => by
    rw [highL, highL, highL_mod a r k j (by omega)]
    congr 1
    obtain ⟨d, rfl⟩ : ∃ d, k = j + 1 + d := ⟨k - (j + 1), by omega⟩
    have e : a * (256 : Int) ^ (j + 1 + d) + r = r + 256 ^ j * (256 * (a * 256 ^ d)) := by
      rw [Int.pow_add, Int.pow_succ]
      simp only [Int.mul_assoc, Int.mul_comm, Int.mul_left_comm, Int.add_comm]
    rw [e, Int.add_mul_ediv_left _ _ (by have : (0 : Int) < 256 ^ j := Int.pow_pos (by decide); omega), Int.add_mul_emod_self_left]
theorem highL_num : ∀ (xs : List Int), Byt xs → highL (num xs) xs.length = xs
  | [], _ => rfl
  | x :: xs, h => by
    have hx := h x (by simp)
    have hb := num_bd xs (fun y hy => h y (by simp [hy]))
    rw [List.length_cons, highL, num_cons, highL_mod _ _ _ _ (Nat.le_refl _), highL_num xs (fun y hy => h y (by simp [hy]))]
    congr 1
    have hp : (0 : Int) < 256 ^ xs.length := Int.pow_pos (by decide)
    rw [Int.add_comm, Int.add_mul_ediv_right _ _ (by omega), Int.ediv_eq_zero_of_lt hb.1 hb.2]
    omega
theorem numAt_high {l : List Int} (hb : Byt l) {p k : Nat} {n : Int} (h : numAt l p k = some n) : (l.drop p).take k = highL n k ∧ p + k ≤ l.length := by
  unfold numAt at h
  split at h
  · rename_i hp
    injection h with h
    have hl : ((l.drop p).take k).length = k := by rw [List.length_take, List.length_drop]; omega
    have h2 := highL_num ((l.drop p).take k) (fun y hy => hb y (List.mem_of_mem_drop (List.mem_of_mem_take hy)))
    rw [hl, h] at h2
    exact ⟨h2.symm, hp⟩
  · cases h
theorem numAt_ok' {l : List Int} {p k : Nat} (h : p + k ≤ l.length) : numAt l p k = some (num ((l.drop p).take k)) := by unfold numAt; rw [if_pos h]
theorem take_next {l : List Int} {p j k : Nat} : (l.drop p).take (j + k) = (l.drop p).take j ++ (l.drop (p + j)).take k := by
  rw [List.take_add, List.drop_drop]
theorem uw_sI {n : Int} (h : U64 n) : uw (sI n) = n := by
  unfold U64 at h
  unfold uw sI
  split <;> omega
/-- A point that is read is written back so. -/
theorem pt_back {l : List Int} (hb : Byt l) {p : Nat} (hp : p + 24 ≤ l.length) (ht : sec (rdPnt l p).t = true) : (l.drop p).take 24 = ptB ⟨(rdPnt l p).t, (rdPnt l p).v⟩ ∧ 0 ≤ (rdPnt l p).t ∧ (rdPnt l p).t ≤ 1099511627775 := by
  have u1 := num8 hb p
  have u2 := num8 hb (p + 8)
  have u3 := num8 hb (p + 16)
  obtain ⟨h1, _⟩ := numAt_high hb (numAt_ok' (l := l) (p := p) (k := 8) (by omega))
  obtain ⟨h2, _⟩ := numAt_high hb (numAt_ok' (l := l) (p := p + 8) (k := 8) (by omega))
  obtain ⟨h3, _⟩ := numAt_high hb (numAt_ok' (l := l) (p := p + 16) (k := 8) (by omega))
  have e : (l.drop p).take 24 = (l.drop p).take 8 ++ (l.drop (p + 8)).take 8 ++ (l.drop (p + 16)).take 8 := by
    rw [show (24 : Nat) = 8 + 8 + 8 from rfl, take_next, take_next]
  unfold rdPnt at ht ⊢
  generalize num ((l.drop p).take 8) = n1 at *
  generalize num ((l.drop (p + 8)).take 8) = n2 at *
  generalize num ((l.drop (p + 16)).take 8) = n3 at *
  dsimp only at ht ⊢
  have hI2 : I64 (sI n2) := by unfold sI; unfold U64 at u2; unfold I64; split <;> omega
  have hw := wideHL hI2 u3
  have hsec : n1 ≤ 1099511627775 := by
    unfold U64 at u1
    unfold sI sec at ht
    simp at ht
    split at ht <;> omega
  have hs1 : sI n1 = n1 := by unfold sI; rw [if_pos (by omega)]
  have hv : (⟨sI n1, sI n2, n3⟩ : PntV).v = sI n2 * 18446744073709551616 + n3 := rfl
  rw [hv, e, h1, h2, h3]
  unfold ptB
  dsimp only
  rw [hw.1, hw.2.1, uw_sI u2, hs1]
  exact ⟨rfl, u1.1, hsec⟩
theorem rdPts_back {s : Spc} (hs : okSpc s = true) {l : List Int} (hb : Byt l) : ∀ (n p : Nat) (qs : List Pt) (b' : Band) (q : Nat), QOk (newB s) qs → p ≤ l.length → rdPts l n p (lastT qs) (putAll qs (newB s)) = .ok (b', q) →
    ∃ ps, QOk (newB s) (qs ++ ps) ∧ b' = putAll (qs ++ ps) (newB s) ∧ ps.length = n ∧ q = p + 24 * n ∧ q ≤ l.length ∧ (l.drop p).take (24 * n) = ps.flatMap ptB
  | 0, p, qs, b', q, hq, hp, h => by
    simp only [rdPts, Except.ok.injEq, Prod.mk.injEq] at h
    obtain ⟨rfl, rfl⟩ := h
    exact ⟨[], by simpa using hq, by simp, rfl, rfl, hp, by simp⟩
  | n + 1, p, qs, b', q, hq, hp, h => by
    rw [rdPts_succ] at h
    cases hpp : pointP (putAll qs (newB s)) l p (lastT qs) with
    | none => rw [hpp] at h; cases h
    | some x =>
      rw [hpp] at h
      dsimp only at h
      have hx := hpp
      unfold pointP at hx
      split at hx
      · rename_i hc
        obtain ⟨c1, c2, c3, c4, c5, c6⟩ := hc
        have hst : (putAll qs (newB s)).step = s.1 := (putAll_step qs (newB s)).1
        rw [hst] at c3 c6
        injection hx with hx
        obtain ⟨hpt, ht0, ht1⟩ := pt_back hb c1 c2
        have hq2 : QOk (newB s) (qs ++ [x]) := by
          subst hx
          refine hq.snoc ⟨ht0, ht1, c3, by unfold fitV at c6; exact of_decide_eq_true c6⟩ ((lastT_lt hq ht0).1 c4) ((free_iff hs hq ht0).1 c5)
        have hl : lastT (qs ++ [x]) = x.t := by unfold lastT; rw [List.getLast?_concat]; rfl
        rw [← putAll_snoc, ← hl] at h
        obtain ⟨ps, r1, r2, r3, r4, r5, r6⟩ := rdPts_back hs hb n (p + 24) (qs ++ [x]) b' q hq2 c1 h
        refine ⟨x :: ps, by simpa [List.append_assoc] using r1, by simpa [List.append_assoc] using r2, by simp [r3], by omega, r5, ?_⟩
        rw [show 24 * (n + 1) = 24 + 24 * n by omega, take_next, hpt, r6, List.flatMap_cons, hx]
      · cases hx
def Piece (l : List Int) (p q : Nat) (xs : List Int) : Prop := p ≤ q ∧ q ≤ l.length ∧ (l.drop p).take (q - p) = xs
theorem Piece.app {l : List Int} {p q r : Nat} {xs ys : List Int} (h : Piece l p q xs) (k : Piece l q r ys) : Piece l p r (xs ++ ys) := by
  obtain ⟨h1, h2, h3⟩ := h
  obtain ⟨k1, k2, k3⟩ := k
  refine ⟨by omega, k2, ?_⟩
  rw [show r - p = (q - p) + (r - q) by omega, take_next, h3, show p + (q - p) = q by omega, k3]
theorem newB_spc' {s : Spc} (h : okSpc s = true) : (newB s).spc = s := by
  have h1 := okSpc_iff.1 h
  show (s.1, (((List.replicate s.2.toNat (none : Option Pt)).length : Nat) : Int)) = s
  rw [List.length_replicate]
  exact Prod.ext rfl (by show ((s.2.toNat : Nat) : Int) = s.2; omega)
theorem putAll_spc (qs : List Pt) (b : Band) : (putAll qs b).spc = b.spc := by
  have h := putAll_step qs b
  unfold Band.spc
  rw [h.1, h.2.1]
theorem rdBand_back {s : Spc} (hs : okSpc s = true) {l : List Int} (hb : Byt l) {p q : Nat} {b' : Band} (h : rdBand l p (newB s) = .ok (b', q)) : Piece l p q (bandB b') ∧ b'.spc = s ∧ b'.ok := by
  unfold rdBand at h
  cases hn : numAt l p 4 with
  | none => rw [hn] at h; cases h
  | some n =>
    rw [hn] at h
    dsimp only at h
    split at h
    · cases h
    · obtain ⟨h1, h2⟩ := numAt_high hb hn
      have hn0 := num4_bd hb p
      rw [hn] at hn0
      simp only [Option.getD_some] at hn0
      obtain ⟨ps, r1, r2, r3, r4, r5, r6⟩ := rdPts_back hs hb n.toNat (p + 4) [] b' q ⟨.nil, .nil, fun q hq => by cases hq⟩ h2 h
      rw [List.nil_append] at r1 r2
      have hpts : b'.pts = ps := by rw [r2]; exact pts_putAll hs r1
      refine ⟨⟨by omega, r5, ?_⟩, by rw [r2, putAll_spc, newB_spc' hs], by rw [r2]; exact putAll_ok _ _ (newB_ok hs) (fun q hq => ⟨(r1.each q hq).1, (r1.each q hq).2.1, (r1.each q hq).2.2.2⟩)⟩
      unfold bandB
      rw [hpts, r3, show ((n.toNat : Nat) : Int) = n by omega, show q - p = 4 + 24 * n.toNat by omega, take_next, h1, r6]
theorem rdBands_back {l : List Int} (hb : Byt l) : ∀ (ss : List Spc) (p q : Nat) (bs : List Band), (∀ s ∈ ss, okSpc s = true) → p ≤ l.length → rdBands l (ss.map newB) p = .ok (bs, q) → Piece l p q (bs.flatMap bandB) ∧ bs.map Band.spc = ss ∧ ∀ b ∈ bs, b.ok
  | [], p, q, bs, _, hp, h => by
    simp only [List.map_nil, rdBands, Except.ok.injEq, Prod.mk.injEq] at h
    obtain ⟨rfl, rfl⟩ := h
    exact ⟨⟨Nat.le_refl _, hp, by simp⟩, rfl, by simp⟩
  | s :: ss, p, q, bs, hs, hp, h => by
    rw [List.map_cons, rdBands] at h
    cases h1 : rdBand l p (newB s) with
    | error e => rw [h1] at h; cases h
    | ok r =>
      obtain ⟨b', p'⟩ := r
      rw [h1] at h
      dsimp only at h
      obtain ⟨k1, k2, k3⟩ := rdBand_back (hs s (by simp)) hb h1
      cases h2 : rdBands l (ss.map newB) p' with
      | error e => rw [h2] at h; cases h
      | ok r2 =>
        obtain ⟨bs', q'⟩ := r2
        rw [h2] at h
        simp only [Except.ok.injEq, Prod.mk.injEq] at h
        obtain ⟨rfl, rfl⟩ := h
        obtain ⟨m1, m2, m3⟩ := rdBands_back hb ss p' q' bs' (fun x hx => hs x (by simp [hx])) k1.2.1 h2
        refine ⟨?_, by rw [List.map_cons, k2, m2], fun b hb => ?_⟩
        · rw [List.flatMap_cons]; exact k1.app m1
        · rcases List.mem_cons.1 hb with rfl | hb
          · exact k3
          · exact m3 b hb
def spcB (s : Spc) : List Int := highL s.1 8 ++ highL s.2 4
theorem rdSpecs_back {l : List Int} (hb : Byt l) : ∀ (n p q : Nat) (acc ss : List Spc), p ≤ l.length → rdSpecs l n p acc = .ok (ss, q) → ∃ new, ss = acc ++ new ∧ new.length = n ∧ Piece l p q (new.flatMap spcB) ∧ ∀ s ∈ new, okSpc s = true
  | 0, p, q, acc, ss, hp, h => by
    simp only [rdSpecs, Except.ok.injEq, Prod.mk.injEq] at h
    obtain ⟨rfl, rfl⟩ := h
    exact ⟨[], by simp, rfl, ⟨Nat.le_refl _, hp, by simp⟩, by simp⟩
  | n + 1, p, q, acc, ss, hp, h => by
    rw [rdSpecs_succ] at h
    split at h
    · rename_i hc
      obtain ⟨c1, c2⟩ := hc
      have hok : okSpc (rdSpc l p) = true := by
        cases ha : acc.getLast? with
        | none => rw [ha] at c2; exact c2
        | some a => rw [ha] at c2; simp [fitsS] at c2; exact c2.1
      have h1 := okSpc_iff.1 hok
      cases h8 : numAt l p 8 with
      | none =>
        unfold rdSpc at h1
        rw [h8] at h1
        simp [sI] at h1
      | some N =>
        have hx : nx8 l p = p + 8 := by unfold nx8; rw [h8]; rfl
        rw [hx] at c1 h
        obtain ⟨M, hM⟩ := Option.isSome_iff_exists.1 c1
        have hx4 : nx4 l (p + 8) = p + 12 := by unfold nx4; rw [hM]; rfl
        rw [hx4] at h
        obtain ⟨a1, a2⟩ := numAt_high hb h8
        obtain ⟨a3, a4⟩ := numAt_high hb hM
        have hsp : rdSpc l p = (N, M) := by
          have hu : U64 N := by
            have h := numAt_ok' (l := l) (p := p) (k := 8) a2
            rw [h8] at h
            injection h with h
            rw [h]
            exact num8 hb p
          unfold rdSpc at h1 ⊢
          rw [hx, h8, hM] at h1 ⊢
          simp only [Option.getD_some] at h1 ⊢
          have hs1 : sI N = N := by
            have := h1.1
            unfold sI at this ⊢
            unfold U64 at hu
            split at this <;> rename_i hh
            · rw [if_pos hh]
            · omega
          rw [hs1]
        obtain ⟨new, r1, r2, r3, r4⟩ := rdSpecs_back hb n (p + 12) q (acc ++ [rdSpc l p]) ss (by omega) h
        refine ⟨rdSpc l p :: new, by rw [r1]; simp, by simp [r2], ?_, fun s hs => ?_⟩
        · rw [List.flatMap_cons]
          refine Piece.app ⟨by omega, by omega, ?_⟩ r3
          rw [show p + 12 - p = 8 + 4 by omega, take_next, a1, a3, hsp]
          rfl
        · rcases List.mem_cons.1 hs with rfl | hs
          · exact hok
          · exact r4 s hs
    · cases h
theorem rdSpecs_chk {l : List Int} : ∀ (n p q : Nat) (acc ss : List Spc), (chk 0 none acc).2 = 0 → acc.length + n ≤ 8 → rdSpecs l n p acc = .ok (ss, q) → (chk 0 none ss).2 = 0
  | 0, p, q, acc, ss, h0, _, h => by
    simp only [rdSpecs, Except.ok.injEq, Prod.mk.injEq] at h
    obtain ⟨rfl, rfl⟩ := h
    exact h0
  | n + 1, p, q, acc, ss, h0, h8, h => by
    rw [rdSpecs_succ] at h
    split at h
    · rename_i hc
      exact rdSpecs_chk n _ q _ ss (check_snoc h0 (by omega) hc.2) (by simp; omega) h
    · cases h
theorem high1 {n : Int} (h : 0 ≤ n ∧ n ≤ 255) : highL n 1 = [n] := by
  simp [highL]
  omega
theorem openP_back {l : List Int} (hb : Byt l) {f : Fl} (h : openP l = .ok f) : f.bytes = l ∧ f.ok := by
  unfold openP at h
  split at h
  · cases h
  · rename_i h14
    split at h
    · cases h
    · rename_i htt
      split at h
      · cases h
      · rename_i hhash
        have htt : l.take 4 = titleL := by simpa using htt
        have hhash : num (l.drop (l.length - 4)) = fnv (l.take (l.length - 4)) := by simpa using hhash
        obtain ⟨L, hL⟩ : ∃ L, L = l.take (l.length - 4) := ⟨_, rfl⟩
        rw [← hL] at h hhash
        have hLl : L.length = l.length - 4 := by rw [hL, List.length_take]; omega
        have hbL : Byt L := by rw [hL]; exact fun x hx => hb x (List.mem_of_mem_take hx)
        have htL : L.take 4 = titleL := by rw [hL, List.take_take, Nat.min_eq_left (by omega)]; exact htt
        have hd4 : (l.drop (l.length - 4)).length = 4 := by rw [List.length_drop]; omega
        have hsum := highL_num (l.drop (l.length - 4)) (fun y hy => hb y (List.mem_of_mem_drop hy))
        rw [hd4, hhash] at hsum
        have hM := numAt_ok' (l := L) (p := 4) (k := 1) (by omega)
        have hN := numAt_ok' (l := L) (p := 5) (k := 1) (by omega)
        have hX := numAt_ok' (l := L) (p := 6) (k := 4) (by omega)
        obtain ⟨m1, _⟩ := numAt_high hbL hM
        obtain ⟨n1, _⟩ := numAt_high hbL hN
        obtain ⟨x1, _⟩ := numAt_high hbL hX
        have bM := num1_bd hbL 4
        have bN := num1_bd hbL 5
        have bX := num4_bd hbL 6
        unfold headP at h
        rw [hM, hN, hX] at h
        rw [hM] at bM
        rw [hN] at bN
        rw [hX] at bX
        simp only [Option.getD_some] at h bM bN bX
        generalize num ((L.drop 4).take 1) = M at *
        generalize num ((L.drop 5).take 1) = N at *
        generalize num ((L.drop 6).take 4) = X at *
        unfold headQ at h
        split at h
        · cases h
        · rename_i g1
          split at h
          · cases h
          · rename_i g2
            split at h
            · cases h
            · rename_i g3
              cases hs : rdSpecs L N.toNat 10 [] with
              | error e => rw [hs] at h; cases h
              | ok r =>
                obtain ⟨ss, p0⟩ := r
                rw [hs] at h
                simp only [headT, opnH] at h
                obtain ⟨new, e1, e2, e3, e4⟩ := rdSpecs_back hbL _ _ _ _ _ (by omega) hs
                rw [List.nil_append] at e1
                subst e1
                have hck := rdSpecs_chk _ _ _ _ _ rfl (by simp; omega) hs
                cases hbn : rdBands L (ss.map newB) p0 with
                | error e => rw [hbn] at h; cases h
                | ok r2 =>
                  obtain ⟨bs, q⟩ := r2
                  rw [hbn] at h
                  simp only [opnT] at h
                  split at h
                  · cases h
                  · rename_i hq
                    simp only [Except.ok.injEq] at h
                    obtain ⟨k1, k2, k3⟩ := rdBands_back hbL ss p0 q bs e4 e3.2.1 hbn
                    have hne : ss ≠ [] := by intro e; rw [e] at e2; simp at e2; omega
                    have hcc : (check ss).2 = 0 := by unfold check; rw [if_neg hne]; exact hck
                    have hnf := newF_ok (m := M) (x := X) hcc (by omega) (by omega)
                    subst h
                    have hlen : bs.length = ss.length := by rw [← k2, List.length_map]
                    constructor
                    · have hbody : (⟨M, X, bs⟩ : Fl).body = L := by
                        have hq' : q = L.length := by have := k1.2.1; omega
                        have hp1 : Piece L 0 4 titleL := ⟨by omega, by omega, by simpa using htL⟩
                        have hp2 : Piece L 4 5 [M] := ⟨by omega, by omega, by rw [← high1 bM, ← m1]⟩
                        have hp3 : Piece L 5 6 [N] := ⟨by omega, by omega, by rw [← high1 bN, ← n1]⟩
                        have hp4 : Piece L 6 10 (highL X 4) := ⟨by omega, by omega, by rw [← x1]⟩
                        have hall := ((((hp1.app hp2).app hp3).app hp4).app e3).app k1
                        obtain ⟨_, _, h3⟩ := hall
                        rw [hq', Nat.sub_zero, List.drop_zero, List.take_length] at h3
                        rw [h3]
                        unfold Fl.body titleL
                        dsimp only
                        have hsp : ∀ bs : List Band, bs.flatMap specB = (bs.map Band.spc).flatMap spcB := by
                          intro bs
                          induction bs with
                          | nil => rfl
                          | cons b bs ih => rw [List.flatMap_cons, List.map_cons, List.flatMap_cons, ih]; rfl
                        rw [hsp, k2, hlen, e2, show ((N.toNat : Nat) : Int) = N by omega]
                        simp
                      unfold Fl.bytes
                      rw [hbody, hsum, hL]
                      exact List.take_append_drop _ _
                    · refine ⟨by show 1 ≤ M ∧ M ≤ 5; omega, by show 0 ≤ X ∧ X ≤ 1000000; omega, ?_, by show bs.length ≤ 8; omega, k3, ?_⟩
                      · intro e
                        have : bs = [] := e
                        rw [this] at hlen
                        exact hne (List.eq_nil_of_length_eq_zero hlen.symm)
                      · intro k a b ha hb'
                        have key : ∀ (j : Nat) (c : Band), bs[j]? = some c → (newF ss M X).bands[j]? = some (newB c.spc) ∧ okSpc c.spc = true := by
                          intro j c hc
                          have h1 : ss[j]? = some c.spc := by rw [← k2, List.getElem?_map, hc]; rfl
                          exact ⟨by simp only [newF, List.getElem?_map, h1]; rfl, e4 _ (List.mem_of_getElem? h1)⟩
                        obtain ⟨u1, u2⟩ := key k a ha
                        obtain ⟨v1, v2⟩ := key (k + 1) b hb'
                        have := hnf.pairs k _ _ u1 v1
                        rwa [newB_spc' u2, newB_spc' v2] at this
end Go.Proofs.Ytdjpcinibgbglaa
