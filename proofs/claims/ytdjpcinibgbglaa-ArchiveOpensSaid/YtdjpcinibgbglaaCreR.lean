/- The region of Create's loop that makes a band. -/
import Derived.Test.YtdjpcinibgbglaaFileL
import Derived.Test.YtdjpcinibgbglaaFn
import Derived.Test.YtdjpcinibgbglaaKern
import Derived.WalkSpells
import Derived.Laws.MakeOwn
set_option linter.unusedVariables false
set_option linter.unusedSimpArgs false
namespace Go.Proofs.Ytdjpcinibgbglaa
open Go.RowKit Go.Sort
structure CreS (w wr : World) (fb k g nN : Nat) (m x s : Int) (bv : Value) (cells : List Value) (d8 d11 d14 d15 d16 d19 : Bool) (x52 x55 x58 x59 x60 : Value) (W : World) : Prop where
  u : Upd (bv.ownBlock.toList ++ [fb]) wr W
  big : wr.heap.size < W.heap.size
  c : HB W wr.heap.size 44 [.int .i64 s, .int .i64 nN]
  f : HB W fb 77 [.int .i64 m, .int .i64 x, if d19 = true then x60 else bv, .func (.func g) #[] #[]]
  o : d16 = false → W.ownsRow w.heap.size 94 1 bv k cells
  l : d8 = true → ∃ lB, x52 = .slice (some ⟨lB, 0, none⟩) nN nN ∧ wr.heap.size < lB ∧ HB W lB 49 ((List.replicate nN none).flatMap ptC)
  i : d11 = true → ∃ iB, x55 = .slice (some ⟨iB, 0, none⟩) nN nN ∧ wr.heap.size < iB ∧ HB W iB 4 ((List.replicate nN none).flatMap flC)
  b : d14 = true → ∃ bB, x58 = pB bB ∧ wr.heap.size < bB ∧ HB W bB 107 [.int .i64 s, .int .i64 nN, x52, x55]
  g : d15 = true → ∃ gB, x59 = .slice (some ⟨gB, 0, none⟩) 1 1 ∧ wr.heap.size < gB ∧ HB W gB 94 [x58]
  r : d16 = true → W.ownsRow w.heap.size 94 1 x60 (k + 1) (cells ++ [x58])
theorem CreS.upd {w wr : World} {fb k g nN : Nat} {m x s : Int} {bv : Value} {cells : List Value} {d8 d11 d14 d15 d16 d19 : Bool} {x52 x55 x58 x59 x60 : Value} {W W' : World} (h : CreS w wr fb k g nN m x s bv cells d8 d11 d14 d15 d16 d19 x52 x55 x58 x59 x60 W) (hU : Upd [] W W') :
    CreS w wr fb k g nN m x s bv cells d8 d11 d14 d15 d16 d19 x52 x55 x58 x59 x60 W' where
  u := h.u.then0 hU
  big := Nat.lt_of_lt_of_le h.big hU.size
  c := h.c.upd hU (by simp)
  f := h.f.upd hU (by simp)
  o := fun e => own_upd (h.o e) hU (by simp)
  l := fun e => by obtain ⟨z, h1, h2, h3⟩ := h.l e; exact ⟨z, h1, h2, h3.upd hU (by simp)⟩
  i := fun e => by obtain ⟨z, h1, h2, h3⟩ := h.i e; exact ⟨z, h1, h2, h3.upd hU (by simp)⟩
  b := fun e => by obtain ⟨z, h1, h2, h3⟩ := h.b e; exact ⟨z, h1, h2, h3.upd hU (by simp)⟩
  g := fun e => by obtain ⟨z, h1, h2, h3⟩ := h.g e; exact ⟨z, h1, h2, h3.upd hU (by simp)⟩
  r := fun e => own_upd (h.r e) hU (by simp)
def CreI (w wr : World) (fb ln b o c k g nN : Nat) (m x at0 s : Int) (bv : Value) (cells : List Value) (D : Nat → Bool) (A : Act) (W : World) : Prop :=
  ∃ x44 x45 x46 x47 x48 x49 x50 x51 x52 x53 x54 x55 x56 x57 x58 x59 x60 x61 x62 y63 : Value, A = { tmps := #[.slice (some ⟨b, o, none⟩) ln c, .int .i64 m, .int .i64 x, undef, undef, undef, .pointer none, .int .i64 0, .int .i64 at0, .int .i64 0, .pointer (some ⟨fb, 0, none⟩), undef, .pointer (some ⟨wr.heap.size, 0, none⟩), .tuple #[.int .i64 at0, .int .i64 0], .slice (some ⟨b, o, none⟩) ln c, .tuple #[.int .i64 at0, .int .i64 0], .int .i64 at0, .int .i64 0, .int .i64 0, .bool false, undef, .int .i64 m, .int .i64 x, .int .i64 m, .func (.func g) #[] #[], .agg #[.int .i64 m, .int .i64 x, .slice none 0 0, .func (.func g) #[] #[]], .pointer (some ⟨fb, 0, none⟩), .pointer (some ⟨fb, 0, none⟩), .pointer (some ⟨fb, 0, none⟩), .pointer (some ⟨fb, 3, none⟩), .func (.func g) #[] #[], .bool false, .int .i64 x, .bool false, .bool false, .int .i64 x, .bool false, .bool false, .slice (some ⟨b, o, none⟩) ln c, .int .i64 ln, .int .i64 k, .bool true, .pointer (some ⟨b, o + k * 2, none⟩), .agg #[.int .i64 s, .int .i64 nN], x44, x45, x46, x47, x48, x49, x50, x51, x52, x53, x54, x55, x56, x57, x58, x59, x60, x61, x62, y63, undef], defers := [] } ∧ CreS w wr fb k g nN m x s bv cells (D 8) (D 11) (D 14) (D 15) (D 16) (D 19) x52 x55 x58 x59 x60 W ∧
    (D 0 = true → x44 = .pointer (some ⟨fb, 0, none⟩)) ∧ (D 1 = true → x45 = .pointer (some ⟨fb, 0, none⟩)) ∧ (D 2 = true → x46 = .pointer (some ⟨fb, 0, none⟩)) ∧ (D 3 = true → x47 = .pointer (some ⟨fb, 2, none⟩)) ∧ (D 4 = true → x48 = bv) ∧ (D 5 = true → x49 = .agg #[.int .i64 s, .int .i64 nN]) ∧ (D 6 = true → x50 = .pointer (some ⟨wr.heap.size, 1, none⟩)) ∧ (D 7 = true → x51 = .int .i64 nN) ∧ (D 9 = true → x53 = .pointer (some ⟨wr.heap.size, 1, none⟩)) ∧ (D 10 = true → x54 = .int .i64 nN) ∧ (D 12 = true → x56 = .agg #[x52, x55]) ∧ (D 13 = true → x57 = .agg #[.int .i64 s, .int .i64 nN, x52, x55]) ∧ (D 17 = true → x61 = .pointer (some ⟨fb, 0, none⟩)) ∧ (D 18 = true → x62 = .pointer (some ⟨fb, 2, none⟩)) ∧ (D 12 = true → D 8 = true) ∧ (D 12 = true → D 11 = true) ∧ (D 13 = true → D 12 = true) ∧ (D 14 = true → D 13 = true) ∧ (D 15 = true → D 14 = true) ∧ (D 16 = true → D 15 = true) ∧ (D 16 = true → D 4 = true) ∧ (D 19 = true → D 16 = true) ∧ (D 19 = true → D 18 = true)
theorem own_ne {W : World} {base : Nat} {e T : TypeId} {size n : Nat} {v : Value} {xs c : List Value} {fb : Nat} (h : W.ownsRow base e size v n xs) (hf : HB W fb T c) (hT : e ≠ T) : ∀ y, v.ownBlock = some y → y ≠ fb := by
  intro y hy e1
  subst e1
  rcases h.2 with ⟨rfl, _⟩ | ⟨g, cap, cur, rfl, _, hg, _⟩
  · simp [Value.ownBlock] at hy
  · simp [Value.ownBlock] at hy
    subst hy
    unfold HB at hf
    rw [hf] at hg
    injection hg with hg
    injection hg with _ hg
    exact hT hg.symm
theorem infoB : (Try.prog.info? 94).map (fun i => (i.zero, i.size, i.bytes)) = some (some (.pointer none), 1, 8) := by kernel_rfl
theorem one_pB {bB : Nat} : ∀ u ∈ [pB bB], u.oneCell' = true := by intro u hu; simp at hu; subst hu; rfl
theorem infoP' : (Try.prog.info? 49).map (fun i => (i.zero, i.size, i.bytes)) = some (some (.agg #[.int .i64 0, .int .i64 0, .int .u64 0]), 3, 24) := by kernel_rfl
theorem infoF' : (Try.prog.info? 4).map (fun i => (i.zero, i.size, i.bytes)) = some (some (.bool false), 1, 1) := by kernel_rfl
theorem made_eq (enc : Option Pt → List Value) (z : Array Value) (K : Nat) (hz : enc none = z.toList) (hK : z.size = K) (h0 : 0 < K) (hl : ∀ x, (enc x).length = K) (n : Nat) : madeCells z (n * K) = ((List.replicate n none).flatMap enc).toArray := by
  have hlen := flat_length enc K hl (List.replicate n none)
  rw [List.length_replicate] at hlen
  have key : ∀ j : Nat, (madeCells z (n * K))[j]? = ((List.replicate n none).flatMap enc)[j]? := by
    intro j
    by_cases hj : j < n * K
    · have h1 : j / K < n := by rw [Nat.div_lt_iff_lt_mul h0]; exact hj
      have h2 : j % K < K := Nat.mod_lt _ h0
      have h3 : (List.replicate n (none : Option Pt))[j / K]? = some none := by rw [List.getElem?_replicate, if_pos h1]
      have h4 : (enc none)[j % K]? = some (z[j % K]'(by omega)) := by rw [hz]; simp [hK, h2]
      have h5 := flatMap_get enc hl _ _ _ h3 _ _ h4
      rw [Nat.mul_comm, Nat.div_add_mod] at h5
      rw [h5]
      simp [madeCells, hj, hK]
      rw [getElem!_pos z (j % K) (by omega)]
    · rw [List.getElem?_eq_none (by omega), Array.getElem?_eq_none (by rw [size_madeCells]; omega)]
  apply Array.ext_getElem?
  intro j
  rw [key j]
  simp
theorem mk_pts (n : Nat) (hn : n ≤ 4096) (W : World) : (Instr.makeSlice 41 (.int .i64 (n : Int)) (.int .i64 (n : Int))).run Try.prog W = .ok (.slice (some ⟨W.heap.size, 0, none⟩) n n) (W.alloc (.cells ((List.replicate n none).flatMap ptC).toArray 49)) := by
  obtain ⟨i, hi, hzz⟩ := Option.map_eq_some_iff.1 infoP'
  simp only [Prod.mk.injEq] at hzz
  obtain ⟨hz, hs, hb⟩ := hzz
  have h := run_make (P := Try.prog) W 41 49 i _ (by kernel_rfl) hi hz .i64 .i64 n n (by omega) (Int.le_refl _) (by rw [hb]; omega) (by omega)
  rw [hs] at h
  simp only [Int.toNat_natCast] at h
  have e := made_eq ptC #[.int .i64 0, .int .i64 0, .int .u64 0] 3 rfl rfl (by decide) ptC_len n
  rw [h, ← e]
  rfl
theorem mk_fls (n : Nat) (hn : n ≤ 4096) (W : World) : (Instr.makeSlice 103 (.int .i64 (n : Int)) (.int .i64 (n : Int))).run Try.prog W = .ok (.slice (some ⟨W.heap.size, 0, none⟩) n n) (W.alloc (.cells ((List.replicate n none).flatMap flC).toArray 4)) := by
  obtain ⟨i, hi, hzz⟩ := Option.map_eq_some_iff.1 infoF'
  simp only [Prod.mk.injEq] at hzz
  obtain ⟨hz, hs, hb⟩ := hzz
  have h := run_make (P := Try.prog) W 103 4 i _ (by kernel_rfl) hi hz .i64 .i64 n n (by omega) (Int.le_refl _) (by rw [hb]; omega) (by omega)
  rw [hs] at h
  simp only [Int.toNat_natCast] at h
  have e := made_eq flC #[.bool false] 1 rfl rfl (by decide) flC_len n
  rw [h, ← e]
  rfl
end Go.Proofs.Ytdjpcinibgbglaa