/- The open windows of a shard, as plain data and in memory. -/
import Derived.Test.YthbjpoiolmlpmaaGreatDoorTake
import Derived.Carry
set_option linter.unusedVariables false
set_option linter.unusedSimpArgs false
namespace Go.Proofs.YthbjpoiolmlpmaaGreatDoor
open Go.RowKit
/-- What a window has of a metric. -/
inductive TK where
  | cnt (n s : Int)
  | gau (n : Int) (st : Bool) (v : Int)
  | tim (s sw : Int) (xs : List Int)
  | set (n : Int) (ms : List ByteArray)
def TK.kind : TK → Int
  | .cnt .. => 1
  | .gau .. => 2
  | .tim .. => 3
  | .set .. => 4
def TK.take (e : Ev) : TK → TK
  | .cnt n s => .cnt (n + 1) (s + scl e.value e.rate)
  | .gau n st v => if e.delta = true then .gau (n + 1) st (v + e.value) else .gau (n + 1) true e.value
  | .tim s sw xs => .tim (s + e.value) (sw + scl 1000000 e.rate) (xs ++ [e.value])
  | .set n ms => .set (n + 1) (addM ms e.member)
def freshK (k : Int) : TK := if k = 1 then .cnt 0 0 else if k = 2 then .gau 0 false 0 else if k = 3 then .tim 0 0 [] else .set 0 []
/-- As much as N events make. -/
def TK.ok (N : Nat) : TK → Prop
  | .cnt n s => (0 ≤ n ∧ n ≤ N) ∧ s.natAbs ≤ N * 1000000000000000000
  | .gau n _ v => (0 ≤ n ∧ n ≤ N) ∧ v.natAbs ≤ N * 1000000000000000000
  | .tim s sw xs => xs.length ≤ N ∧ s.natAbs ≤ N * 1000000000000000000 ∧ sw.natAbs ≤ N * 1000000000000000000
  | .set n ms => (0 ≤ n ∧ n ≤ N) ∧ ms.length ≤ N
def TK.ty : TK → TypeId
  | .cnt .. => 116
  | .gau .. => 119
  | .tim .. => 122
  | .set .. => 125
def TakAt (w : World) (base p : Nat) (x : List Nat) : TK → Prop
  | .cnt n s => HB w p TCnt [.int .i64 n, .int .i64 (wh s), .int .u64 (wl s)] ∧ x = []
  | .gau n st v => HB w p TGau [.int .i64 n, .bool st, .int .i64 (wh v), .int .u64 (wl v)] ∧ x = []
  | .tim s sw xs => ∃ sv, HB w p TTim [.int .i64 (wh s), .int .u64 (wl s), .int .i64 (wh sw), .int .u64 (wl sw), sv] ∧ w.ownsRow base 2 1 sv xs.length (xs.map (Value.int .i64)) ∧ sv.ownBlock.toList = x
  | .set n ms => ∃ b, HB w p TSet [.int .i64 n, .map (some b)] ∧ MapAt w Value.string b (ms.map kvU) ∧ x = [b]
theorem TakAt.upd {S : List Nat} {w w' : World} {base p : Nat} {x : List Nat} {tk : TK} (h : TakAt w base p x tk) (hU : Upd S w w') (hp : p ∉ S) (hx : ∀ b ∈ x, b ∉ S) : TakAt w' base p x tk := by
  cases tk with
  | cnt n s => exact ⟨h.1.upd hU hp, h.2⟩
  | gau n st v => exact ⟨h.1.upd hU hp, h.2⟩
  | tim s sw xs =>
    obtain ⟨sv, h1, h2, h3⟩ := h
    exact ⟨sv, h1.upd hU hp, own_upd h2 hU (fun g hg => hx g (by rw [← h3]; simp [hg])), h3⟩
  | set n ms =>
    obtain ⟨b, h1, h2, h3⟩ := h
    exact ⟨b, h1.upd hU hp, h2.upd hU (hx b (by rw [h3]; simp)), h3⟩
theorem TakAt.lt {w : World} {base p : Nat} {x : List Nat} {tk : TK} (h : TakAt w base p x tk) : p < w.heap.size ∧ ∀ b ∈ x, b < w.heap.size := by
  cases tk with
  | cnt n s => exact ⟨h.1.lt, fun b hb => by rw [h.2] at hb; cases hb⟩
  | gau n st v => exact ⟨h.1.lt, fun b hb => by rw [h.2] at hb; cases hb⟩
  | tim s sw xs =>
    obtain ⟨sv, h1, h2, h3⟩ := h
    exact ⟨h1.lt, fun b hb => by rw [← h3] at hb; exact own_lt h2 b (by simpa using hb)⟩
  | set n ms =>
    obtain ⟨b, h1, h2, h3⟩ := h
    exact ⟨h1.lt, fun c hc => by rw [h3] at hc; simp at hc; subst hc; exact h2.lt⟩
theorem chk_ok {e : Ev} (h : chk e = 0) : (e.kind = 1 ∨ e.kind = 2 ∨ e.kind = 3 ∨ e.kind = 4) ∧ (-1000000000000000 ≤ e.value ∧ e.value ≤ 1000000000000000) ∧ (1000 ≤ e.rate ∧ e.rate ≤ 1000000) := by
  unfold chk at h
  split at h
  · cases h
  · split at h
    · cases h
    · rename_i h1
      split at h
      · cases h
      · rename_i h2
        split at h
        · cases h
        · rename_i h3
          refine ⟨by simp at h1; omega, ?_, ?_⟩
          · unfold vfit at h2
            split at h2
            · simp at h2
            · rename_i h4
              simp at h4
              omega
          · unfold rbad at h3
            simp at h3
            omega
/-- The function that takes. -/
def TK.takeF : TK → FuncId
  | .cnt .. => 161
  | .gau .. => 164
  | .tim .. => 166
  | .set .. => 168
theorem addM_len (ms : List ByteArray) (x : ByteArray) : (addM ms x).length ≤ ms.length + 1 := by
  unfold addM
  split <;> simp
theorem take_ok {N : Nat} {tk : TK} {e : Ev} (h : tk.ok N) (hv : -1000000000000000 ≤ e.value ∧ e.value ≤ 1000000000000000) (hr : 1000 ≤ e.rate ∧ e.rate ≤ 1000000) : (tk.take e).ok (N + 1) := by
  have b1 := scl_bd hv hr.1
  have b2 := scl_bd (v := 1000000) ⟨by omega, by omega⟩ hr.1
  cases tk with
  | cnt n s =>
    obtain ⟨h1, h2⟩ := h
    exact ⟨by omega, by show (s + scl e.value e.rate).natAbs ≤ _; omega⟩
  | gau n st v =>
    obtain ⟨h1, h2⟩ := h
    simp only [TK.take]
    split
    · exact ⟨by omega, by omega⟩
    · exact ⟨by omega, by omega⟩
  | tim s sw xs =>
    obtain ⟨h1, h2, h3⟩ := h
    exact ⟨by simp; omega, by show (s + e.value).natAbs ≤ _; omega, by show (sw + scl 1000000 e.rate).natAbs ≤ _; omega⟩
  | set n ms =>
    obtain ⟨h1, h2⟩ := h
    exact ⟨by omega, Nat.le_trans (addM_len ms e.member) (by omega)⟩
theorem take_calls (base p N : Nat) (x : List Nat) (tk : TK) (e : Ev) (w : World) (h : TakAt w base p x tk) (hN : tk.ok N) (hN2 : N ≤ 4194303) (hbase : base ≤ w.heap.size) (hv : -1000000000000000 ≤ e.value ∧ e.value ≤ 1000000000000000) (hr : 1000 ≤ e.rate ∧ e.rate ≤ 1000000) :
    Calls Tryz.prog tk.takeF #[.pointer (some ⟨p, 0, none⟩), .agg (evC e).toArray] w fun r w' => r = .returned (.tuple #[]) ∧ ∃ x', TakAt w' base p x' (tk.take e) ∧ (∀ b ∈ x', b ∈ x ∨ w.heap.size ≤ b) ∧ Upd (p :: x) w w' := by
  have b1 := scl_bd hv hr.1
  have b2 := scl_bd (v := 1000000) ⟨by omega, by omega⟩ hr.1
  cases tk with
  | cnt n s =>
    obtain ⟨h1, rfl⟩ := h
    obtain ⟨g1, g2⟩ := hN
    refine (cnt_take p n s e w h1 (by omega) hv hr (by unfold I128; omega) (by unfold I128; omega)).mono ?_
    rintro r w' ⟨rfl, hB, hU⟩
    exact ⟨rfl, [], ⟨hB, rfl⟩, (fun b hb => by cases hb), hU⟩
  | gau n st v =>
    obtain ⟨h1, rfl⟩ := h
    obtain ⟨g1, g2⟩ := hN
    cases hd : e.delta with
    | true =>
      refine (gau_move p n v st e w h1 (by omega) hv hd (by unfold I128; omega) (by unfold I128; omega)).mono ?_
      rintro r w' ⟨rfl, hB, hU⟩
      refine ⟨rfl, [], ?_, fun b hb => (by cases hb), hU⟩
      simp only [TK.take]
      rw [if_pos hd]
      exact ⟨hB, rfl⟩
    | false =>
      refine (gau_set p n v st e w h1 (by omega) hv hd).mono ?_
      rintro r w' ⟨rfl, hB, hU⟩
      refine ⟨rfl, [], ?_, fun b hb => (by cases hb), hU⟩
      simp only [TK.take]
      rw [if_neg (by rw [hd]; decide)]
      exact ⟨hB, rfl⟩
  | tim s sw xs =>
    obtain ⟨sv, h1, h2, h3⟩ := h
    obtain ⟨g1, g2, g3⟩ := hN
    refine (tim_take p base s sw xs sv e w h1 h2 hbase (by omega) hv hr (by unfold I128; omega) (by unfold I128; omega) (by unfold I128; omega) (by unfold I128; omega)).mono ?_
    rintro r w' ⟨rfl, sv', hB, ho, hat, hU⟩
    refine ⟨rfl, sv'.ownBlock.toList, ⟨sv', hB, by simpa using ho, rfl⟩, fun b hb => ?_, by rw [← h3]; exact hU⟩
    rcases hat with hat | ⟨c, hc, hl⟩
    · rw [hat, h3] at hb; exact .inl hb
    · rw [hc] at hb; simp at hb; subst hb; exact .inr hl
  | set n ms =>
    obtain ⟨b, h1, h2, rfl⟩ := h
    obtain ⟨g1, g2⟩ := hN
    refine (set_take p b n ms e w h1 h2 (by omega)).mono ?_
    rintro r w' ⟨rfl, hB, hM, hU⟩
    exact ⟨rfl, [b], ⟨b, hB, hM, rfl⟩, fun c hc => .inl hc, hU⟩
theorem fresh_kind {k : Int} (h : k = 1 ∨ k = 2 ∨ k = 3 ∨ k = 4) : (freshK k).kind = k := by
  rcases h with rfl | rfl | rfl | rfl <;> rfl
theorem take_kind (tk : TK) (e : Ev) : (tk.take e).kind = tk.kind := by
  cases tk with
  | gau n st v => simp only [TK.take]; split <;> rfl
  | _ => rfl
theorem take_F (tk : TK) (e : Ev) : (tk.take e).ty = tk.ty := by
  cases tk with
  | gau n st v => simp only [TK.take]; split <;> rfl
  | _ => rfl
theorem fresh_ok (k : Int) : (freshK k).ok 0 := by
  unfold freshK
  split
  · exact ⟨by omega, by decide⟩
  · split
    · exact ⟨by omega, by decide⟩
    · split
      · exact ⟨by simp, by decide, by decide⟩
      · exact ⟨by omega, by simp⟩
theorem fresh_calls (base : Nat) (k : Int) (hk : k = 1 ∨ k = 2 ∨ k = 3 ∨ k = 4) (w : World) (hbase : base ≤ w.heap.size) :
    Calls Tryz.prog 37 #[.int .i64 k] w fun e w' => ∃ p x, e = .returned (.iface (freshK k).ty (.pointer (some ⟨p, 0, none⟩))) ∧ TakAt w' base p x (freshK k) ∧ w.heap.size ≤ p ∧ (∀ b ∈ x, w.heap.size ≤ b ∧ b ≠ p) ∧ Upd [] w w' := by
  have hmm := @run_makeMap Tryz.prog
  rcases hk with rfl | rfl | rfl | rfl
  · go_enter Tryz.func37, Tryz.ntmps37
    go_wp2
    go_ret
    exact ⟨_, [], rfl, ⟨HB.new w TCnt [.int .i64 0, .int .i64 0, .int .u64 0], rfl⟩, Nat.le_refl _, (fun b hb => by cases hb), (Upd.refl _ _).alloc _⟩
  · go_enter Tryz.func37, Tryz.ntmps37
    go_wp2
    go_ret
    exact ⟨_, [], rfl, ⟨HB.new w TGau [.int .i64 0, .bool false, .int .i64 0, .int .u64 0], rfl⟩, Nat.le_refl _, (fun b hb => by cases hb), (Upd.refl _ _).alloc _⟩
  · go_enter Tryz.func37, Tryz.ntmps37
    go_wp2
    go_ret
    exact ⟨_, [], rfl, ⟨.slice none 0 0, HB.new w TTim [.int .i64 0, .int .u64 0, .int .i64 0, .int .u64 0, .slice none 0 0], ⟨rfl, .inl ⟨rfl, rfl⟩⟩, rfl⟩, Nat.le_refl _, (fun b hb => by cases hb), (Upd.refl _ _).alloc _⟩
  · go_enter Tryz.func37, Tryz.ntmps37
    go_wp2
    go_ret
    exact ⟨_, [w.heap.size], rfl, ⟨w.heap.size, by
      have := HB.new1 w (.map #[] 0) TSet [.int .i64 0, .map (some w.heap.size)]
      exact this, (MapAt.new w Value.string).upd ((Upd.refl [] _).alloc _) (by simp), rfl⟩, by simp, (fun b hb => by simp at hb; subst hb; simp), ((Upd.refl _ _).alloc _).alloc _⟩
end Go.Proofs.YthbjpoiolmlpmaaGreatDoor
