/- Bytes: archive.high, ring.Hash, archive.floor. -/
import Derived.Test.YtdjpcinibgbglaaFn
import Derived.Test.YtdjpcinibgbglaaBits
import Derived.Test.YtdjpcinibgbglaaCreR
import Derived.WalkSpells
import Derived.Laws.BytesArg
set_option linter.unusedVariables false
set_option linter.unusedSimpArgs false
namespace Go.Proofs.Ytdjpcinibgbglaa
open Go.RowKit Go.Sort
def bc (x : Int) : List Value := [.int .u8 x]
theorem bc_len (x : Int) : (bc x).length = 1 := rfl
def cb (l : List Int) : List Value := l.map (Value.int .u8)
theorem cb_app (l r : List Int) : cb (l ++ r) = cb l ++ cb r := by simp [cb]
theorem cb_len (l : List Int) : (cb l).length = l.length := by simp [cb]
theorem cb_get {l : List Int} {i : Nat} {x : Int} (h : l[i]? = some x) : (cb l)[i]? = some (.int .u8 x) := by simp [cb, h]
theorem cb_one (l : List Int) : ∀ u ∈ cb l, u.oneCell' = true := by intro u hu; simp [cb] at hu; obtain ⟨x, _, rfl⟩ := hu; rfl
theorem cb_flat (l : List Int) : l.flatMap bc = cb l := by
  induction l with
  | nil => rfl
  | cons x l ih => rw [List.flatMap_cons, ih]; rfl
theorem infoY : (Try.prog.info? 5).map (fun i => (i.zero, i.size, i.bytes)) = some (some (.int .u8 0), 1, 1) := by kernel_rfl
def Byt (l : List Int) : Prop := ∀ x ∈ l, 0 ≤ x ∧ x ≤ 255
theorem Byt.app {l r : List Int} (h : Byt l) (k : Byt r) : Byt (l ++ r) := fun x hx => (List.mem_append.1 hx).elim (h x) (k x)
/-- A number's bytes, the highest first. -/
def highL (n : Int) : Nat → List Int
  | 0 => []
  | k + 1 => n / 256 ^ k % 256 :: highL n k
theorem highL_len (n : Int) : ∀ k, (highL n k).length = k
  | 0 => rfl
  | k + 1 => by simp [highL, highL_len n k]
theorem highL_byt (n : Int) : ∀ k, Byt (highL n k)
  | 0 => by intro x hx; simp [highL] at hx
  | k + 1 => by
    intro x hx
    simp only [highL, List.mem_cons] at hx
    rcases hx with rfl | hx
    · omega
    · exact highL_byt n k x hx
theorem high_sh (n : Int) (k : Nat) : n / 2 ^ (8 * k) % 256 = n / 256 ^ k % 256 := by
  rw [Int.pow_mul]
  rfl
theorem own_notin' {W : World} {base : Nat} {e : TypeId} {size n : Nat} {v : Value} {xs : List Value} (h : W.ownsRow base e size v n xs) {T : TypeId} {c : List Value} {fb : Nat} (hf : HB W fb T c) (hT : e ≠ T) : fb ∉ v.ownBlock.toList := by
  intro hm
  simp at hm
  exact own_ne h hf hT fb hm rfl
set_option maxRecDepth 4000 in
set_option maxHeartbeats 1000000 in
theorem high_calls (n : Int) (hn : U64 n) (k : Nat) (hk : k ≤ 8) (w : World) :
    Calls Try.prog 49 #[.int .u64 n, .int .i64 k] w fun e w' => ∃ v', e = .returned v' ∧ w'.ownsRow w.heap.size 5 1 v' k (cb (highL n k)) ∧ Upd [] w w' := by
  have e1 : wrap64 ((k : Int) - 1) = (k : Int) - 1 := w64 (by unfold I64; omega)
  go_enter Try.func49, Try.ntmps49
  go_wp2_with fail
  go_loopw [5, 6] (fun v i wr => ∃ (j : Nat) (l : List Int), j ≤ k ∧ i = .int .i64 ((j : Int) - 1) ∧ l ++ highL n j = highL n k ∧ wr.ownsRow w.heap.size 5 1 v (k - j) (cb l) ∧ Upd [] w wr) (fun _ i _ => (intOf i + 1).toNat)
  case atStart => exact ⟨k, [], Nat.le_refl _, rfl, rfl, by rw [Nat.sub_self]; exact ⟨rfl, .inl ⟨rfl, rfl⟩⟩, Upd.refl _ _⟩
  case round =>
    obtain ⟨j, l, hj, rfl, hl, hO, hU⟩ := hrel
    have HO := Lib.hid hO
    have HUR := Lib.hid hU
    have HL := Lib.hid hl
    obtain ⟨A, c, rfl, _, _, _⟩ := own_shape hO
    clear hO hU hl
    rcases j with _ | j
    · go_wp2_with fail
      go_ret
      exact ⟨_, rfl, by have := HO.out; rw [Nat.sub_zero] at this; rw [← HL.out, highL, List.append_nil]; exact this, HUR.out⟩
    · have ek : (((j + 1 : Nat) : Int) - 1) = (j : Int) := by omega
      rw [ek]
      have hj0 : (0 : Int) ≤ (j : Int) := by omega
      have hj8 : j ≤ 7 := by omega
      have hwk : wrap64 ((j : Int) - 1) = (j : Int) - 1 := w64 (by unfold I64; omega)
      have hsh := high_sh n j
      have hUS := HUR.out.size
      have HN := Lib.hid (HB.new wr 5 [.int .u8 (n / 256 ^ j % 256)])
      have hkj : k - (j + 1) + 1 = k - j := by omega
      have hj2 : j ≤ k := by omega
      go_wp2_with (at_builtin; go_must (refine wp_append1 w.heap.size 62 5 _ 1 1 (.slice A (k - (j + 1)) c) (k - (j + 1)) (cb l) [.int .u8 (n / 256 ^ j % 256)] _ rfl rfl (by kernel_rfl) infoY rfl (by decide) (by decide) rfl rfl rfl (cb_one [_]) (own_upd HO.out ((Upd.refl [] wr).alloc _) (by simp)) HN.out (by simp; omega) (by omega) ?_))
      intro v1 w1 hown1 hU1 hat1
      have HO1 := Lib.hid hown1
      have HU1a := Lib.hid (app_upd HUR.out ((Upd.refl [] wr).alloc _) hU1 (own_base HO.out))
      clear hown1 hU1 hat1 hsh
      go_wp2
      exact ⟨⟨j, l ++ [n / 256 ^ j % 256], hj2, rfl, by rw [List.append_assoc]; exact HL.out, by rw [cb_app]; exact HO1.out, HU1a.out⟩, by simp [intOf]⟩
def fnvS (h b : Int) : Int := bits .xor .u32 h b * 16777619 % 4294967296
def fnv (l : List Int) : Int := l.foldl fnvS 2166136261
def nums (s : ByteArray) : List Int := s.data.toList.map fun b => (b.toNat : Int)
theorem nums_of {l : List Int} (h : Byt l) : nums (strOfNums l) = l := by
  unfold nums
  rw [strOfNums_data, List.map_map]
  have e : l.map ((fun b : UInt8 => (b.toNat : Int)) ∘ fun n : Int => UInt8.ofNat n.toNat) = l.map id := by
    apply List.map_congr_left
    intro x hx
    have hx2 := h x hx
    show (((UInt8.ofNat x.toNat).toNat : Nat) : Int) = x
    rw [UInt8.toNat_ofNat']
    omega
  rw [e, List.map_id]
theorem nums_len (s : ByteArray) : (nums s).length = s.size := by unfold nums; rw [List.length_map, Array.length_toList]; rfl
theorem fnv_bd (l : List Int) : 0 ≤ fnv l ∧ fnv l ≤ 4294967295 := by
  unfold fnv
  rcases List.eq_nil_or_concat l with rfl | ⟨k, y, rfl⟩
  · exact ⟨by decide, by decide⟩
  · rw [List.concat_eq_append, List.foldl_append]
    simp only [List.foldl_cons, List.foldl_nil, fnvS]
    omega
theorem fnv_take (s : ByteArray) {k : Nat} (h : k < s.size) : fnvS (fnv ((nums s).take k)) ((s[k].toNat : Int) % 4294967296) = fnv ((nums s).take (k + 1)) := by
  have e : (nums s)[k]? = some (s[k].toNat : Int) := by
    unfold nums
    rw [List.getElem?_map, Array.getElem?_toList, Array.getElem?_eq_getElem h]
    rfl
  have e2 : ((s[k].toNat : Nat) : Int) % 4294967296 = (s[k].toNat : Int) := by have := s[k].toNat_lt; omega
  rw [List.take_add_one, e, e2]
  unfold fnv
  rw [List.foldl_append]
  rfl
set_option maxRecDepth 4000 in
set_option maxHeartbeats 1000000 in
theorem hash_calls (s : ByteArray) (hs : s.size ≤ maxLen) (w : World) :
    Calls Try.prog 50 #[.string s] w fun e w' => e = .returned (.int .u32 (fnv (nums s))) ∧ w' = w := by
  have hlm : s.size ≤ 9223372036854775807 := Nat.le_trans hs (by unfold maxLen; decide)
  go_enter Try.func50, Try.ntmps50
  go_wp2_with fail
  go_loopw [3, 7] (fun h i wr => ∃ k : Nat, k ≤ s.size ∧ i = .int .i64 (k : Int) ∧ h = .int .u32 (fnv ((nums s).take k)) ∧ wr = w) (fun _ i _ => s.size - (intOf i).toNat)
  case atStart => exact ⟨0, Nat.zero_le _, rfl, rfl, rfl⟩
  case round =>
    obtain ⟨k, hk, rfl, rfl, rfl⟩ := hrel
    by_cases hlt : k < s.size
    · have hkI : (k : Int) < (s.size : Int) := by omega
      obtain ⟨F, hF⟩ : ∃ F, F = fnv ((nums s).take k) := ⟨_, rfl⟩
      have HF := Lib.hid hF
      rw [← hF]
      clear hF
      go_wp2
      exact ⟨⟨k + 1, hlt, rfl, by rw [← fnv_take s hlt, ← HF.out]; rfl, trivial⟩, by simp [intOf]; omega⟩
    · obtain rfl : k = s.size := by omega
      have e1 : fnv ((nums s).take s.size) = fnv (nums s) := by rw [← nums_len, List.take_length]
      rw [e1]
      clear e1
      go_wp2_with fail
      go_ret
      exact ⟨rfl, rfl⟩
theorem floor_calls (t s : Int) (ht : T62 t) (hs : 1 ≤ s) (w : World) :
    Calls Try.prog 51 #[.int .i64 t, .int .i64 s] w fun e w' => e = .returned (.int .i64 (t - t % s)) ∧ w' = w := by
  have e1 := tmod_nn (s := s) ht.1
  have e2 : IntKind.i64.wrap (t - t % s) = t - t % s := wrapI' (by
    have := emod_le' ht.1 hs
    unfold T62 at ht
    unfold I64
    omega)
  have e3 : (s == 0) = false := by simp; omega
  have e4 : decide (t % s < 0) = false := decide_eq_false (by have := emod_le' ht.1 hs; omega)
  clear ht
  go_enter Try.func51, Try.ntmps51
  go_wp2
  go_ret
  exact ⟨rfl, rfl⟩
end Go.Proofs.Ytdjpcinibgbglaa
