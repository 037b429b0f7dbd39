/- Plain: one byte changed changes the hash (for ArchiveTold). -/
import Derived.Test.YtdjpcinibgbglaaTrip
set_option linter.unusedVariables false
set_option linter.unusedSimpArgs false
namespace Go.Proofs.Ytdjpcinibgbglaa
open Go.RowKit Go.Sort
theorem xor_u32 {a c : Int} (h : 0 ≤ a ∧ a ≤ 4294967295) (hc : 0 ≤ c ∧ c ≤ 4294967295) : bits .xor .u32 a c = ((a.toNat ^^^ c.toNat : Nat) : Int) ∧ a.toNat ^^^ c.toNat < 4294967296 := by
  obtain ⟨n, rfl⟩ := Int.eq_ofNat_of_zero_le h.1
  obtain ⟨d, rfl⟩ := Int.eq_ofNat_of_zero_le hc.1
  have e1 : BitVec.ofInt 32 (n : Int) = BitVec.ofNat 32 n := by apply BitVec.eq_of_toNat_eq; simp
  have e2 : BitVec.ofInt 32 (d : Int) = BitVec.ofNat 32 d := by apply BitVec.eq_of_toNat_eq; simp
  have e3 : (BitVec.ofNat 32 n ^^^ BitVec.ofNat 32 d).toNat = n ^^^ d := by
    rw [BitVec.toNat_xor, BitVec.toNat_ofNat, BitVec.toNat_ofNat, Nat.mod_eq_of_lt (by omega), Nat.mod_eq_of_lt (by omega)]
  have hlt : n ^^^ d < 4294967296 := Nat.xor_lt_two_pow (n := 32) (by omega) (by omega)
  refine ⟨?_, hlt⟩
  show IntKind.u32.wrap (((BitVec.ofInt 32 (n : Int) ^^^ BitVec.ofInt 32 (d : Int) : BitVec 32).toNat : Nat) : Int) = _
  rw [e1, e2, e3]
  simp only [Int.toNat_natCast]
  simp [IntKind.wrap, IntKind.bits, IntKind.signed]
  omega
theorem xor_l {a x y : Nat} (h : a ^^^ x = a ^^^ y) : x = y := by
  have h1 := congrArg (fun z => a ^^^ z) h
  simpa only [← Nat.xor_assoc, Nat.xor_self, Nat.zero_xor] using h1
theorem xor_r {a x y : Nat} (h : x ^^^ a = y ^^^ a) : x = y := by
  rw [Nat.xor_comm x a, Nat.xor_comm y a] at h
  exact xor_l h
theorem mul_back {z : Int} (h : 0 ≤ z ∧ z < 4294967296) : (z * 16777619 % 4294967296) * 899433627 % 4294967296 = z := by
  rw [Int.mul_emod, Int.emod_emod, ← Int.mul_emod, Int.mul_assoc, show (16777619 * 899433627 : Int) = 1 + 4294967296 * 3513497 by decide, Int.mul_add, Int.mul_one, Int.mul_left_comm, Int.add_mul_emod_self_left]
  exact Int.emod_eq_of_lt h.1 h.2
theorem fnvS_inj {h g b c : Int} (hh : 0 ≤ h ∧ h ≤ 4294967295) (hg : 0 ≤ g ∧ g ≤ 4294967295) (hb : 0 ≤ b ∧ b ≤ 255) (hc : 0 ≤ c ∧ c ≤ 255) (e : fnvS h b = fnvS g c) : h.toNat ^^^ b.toNat = g.toNat ^^^ c.toNat := by
  unfold fnvS at e
  obtain ⟨h1, h2⟩ := xor_u32 hh (c := b) (by omega)
  obtain ⟨h3, h4⟩ := xor_u32 hg (c := c) (by omega)
  rw [h1, h3] at e
  have k1 := mul_back (z := ((h.toNat ^^^ b.toNat : Nat) : Int)) ⟨Int.natCast_nonneg _, Int.ofNat_lt.2 h2⟩
  have k2 := mul_back (z := ((g.toNat ^^^ c.toNat : Nat) : Int)) ⟨Int.natCast_nonneg _, Int.ofNat_lt.2 h4⟩
  rw [e, k2] at k1
  exact (Int.ofNat.inj k1).symm
theorem fnvS_bd (h b : Int) : 0 ≤ fnvS h b ∧ fnvS h b ≤ 4294967295 := by unfold fnvS; omega
theorem fold_inj : ∀ (l : List Int) (h g : Int), Byt l → (0 ≤ h ∧ h ≤ 4294967295) → (0 ≤ g ∧ g ≤ 4294967295) → l.foldl fnvS h = l.foldl fnvS g → h = g := by
  intro l
  induction l with
  | nil => intro h g _ _ _ e; exact e
  | cons b l ih =>
    intro h g hb hh hg e
    have h1 := ih (fnvS h b) (fnvS g b) (fun x hx => hb x (by simp [hx])) (fnvS_bd _ _) (fnvS_bd _ _) e
    have hbb := hb b (by simp)
    have h2 := fnvS_inj hh hg hbb hbb h1
    have h3 := xor_r h2
    omega
theorem fnv_one {pre post : List Int} {x y : Int} (hp : Byt post) (hx : 0 ≤ x ∧ x ≤ 255) (hy : 0 ≤ y ∧ y ≤ 255) (e : fnv (pre ++ x :: post) = fnv (pre ++ y :: post)) : x = y := by
  have hb := fnv_bd pre
  unfold fnv at e hb
  rw [List.foldl_append, List.foldl_append, List.foldl_cons, List.foldl_cons] at e
  have h1 := fold_inj post _ _ hp (fnvS_bd _ _) (fnvS_bd _ _) e
  have h2 := fnvS_inj hb hb hx hy h1
  have h3 := xor_l h2
  omega
theorem num_state : ∀ (l : List Int) (a b : Int), l.foldl (fun n c => n * 256 + c) a = l.foldl (fun n c => n * 256 + c) b → a = b := by
  intro l
  induction l with
  | nil => intro a b e; exact e
  | cons x l ih =>
    intro a b e
    simp only [List.foldl_cons] at e
    have := ih _ _ e
    omega
theorem num_one {pre post : List Int} {x y : Int} (e : num (pre ++ x :: post) = num (pre ++ y :: post)) : x = y := by
  unfold num at e
  rw [List.foldl_append, List.foldl_append, List.foldl_cons, List.foldl_cons] at e
  have := num_state post _ _ e
  omega
theorem set_split {l : List Int} {k : Nat} {x c : Int} (h : l[k]? = some x) : ∃ pre post, l = pre ++ x :: post ∧ l.set k c = pre ++ c :: post := by
  obtain ⟨hk, rfl⟩ := List.getElem?_eq_some_iff.1 h
  refine ⟨l.take k, l.drop (k + 1), ?_, ?_⟩
  · rw [← List.drop_eq_getElem_cons hk, List.take_append_drop]
  · rw [List.set_eq_take_append_cons_drop, if_pos hk]
theorem openP_told {f : Fl} (h : f.ok) {k : Nat} {x c : Int} (hx : f.bytes[k]? = some x) (hc : 0 ≤ c ∧ c ≤ 255) (hne : x ≠ c) : ∃ r, openP (f.bytes.set k c) = .error r := by
  have hby : f.bytes = f.body ++ highL (fnv f.body) 4 := rfl
  have hB := body_byt h
  have hfb := fnv_bd f.body
  have e4 : (256 : Int) ^ 4 = 4294967296 := by decide
  generalize f.body = B at hby hB hfb
  rw [hby] at hx ⊢
  have hl : ((B ++ highL (fnv B) 4).set k c).length - 4 = B.length := by rw [List.length_set, List.length_append, highL_len]; omega
  unfold openP
  rw [hl]
  split
  · exact ⟨_, rfl⟩
  · split
    · exact ⟨_, rfl⟩
    · split
      · exact ⟨_, rfl⟩
      · rename_i hh
        exfalso
        have hh : num (((B ++ highL (fnv B) 4).set k c).drop B.length) = fnv (((B ++ highL (fnv B) 4).set k c).take B.length) := by simpa using hh
        have hnum : num (highL (fnv B) 4) = fnv B := by rw [num_highL, e4, Int.emod_eq_of_lt (by omega) (by omega)]
        by_cases hk : k < B.length
        · rw [List.set_append_left _ _ hk, List.drop_left' (by rw [List.length_set]), List.take_left' (by rw [List.length_set]), hnum] at hh
          rw [List.getElem?_append_left hk] at hx
          obtain ⟨pre, post, h1, h2⟩ := set_split (c := c) hx
          rw [h2] at hh
          have hxb := hB x (List.mem_of_getElem? hx)
          rw [h1] at hh hB
          exact hne (fnv_one (fun y hy => hB y (by simp [hy])) hxb hc hh)
        · rw [List.set_append_right _ _ (by omega), List.drop_left, List.take_left] at hh
          rw [List.getElem?_append_right (by omega)] at hx
          obtain ⟨pre, post, h1, h2⟩ := set_split (c := c) hx
          rw [h2] at hh
          have hn2 : num (pre ++ x :: post) = fnv B := by rw [← h1]; exact hnum
          exact hne (num_one (hh.trans hn2.symm)).symm
end Go.Proofs.Ytdjpcinibgbglaa
