/- What agg.tallies needs besides its walk. -/
import Derived.Test.YthbjpoiolmlpmaaGreatDoorDropW
import Derived.Test.YthbjpoiolmlpmaaGreatDoorSortT
import Derived.Test.YthbjpoiolmlpmaaGreatDoorAgPl
import Derived.Test.YthbjpoiolmlpmaaGreatDoorPair
set_option linter.unusedVariables false
set_option linter.unusedSimpArgs false
namespace Go.Proofs.YthbjpoiolmlpmaaGreatDoor
open Go.RowKit
def TC.sv (u : TC) : Value := .slice u.sa u.sn u.sc
def TC.mv (u : TC) : Value := .slice u.ma u.mn u.mc
/-- The cells u tell of the tally l: samples in blocks at base or above, members in blocks at B or above. -/
structure TlAt (w : World) (base B : Nat) (u : TC) (l : TL) : Prop where
  k : u.k = l.k
  n : u.n = l.n
  c : u.c = l.c
  sh : u.sh = wh l.sum
  sl : u.sl = wl l.sum
  wh' : u.wh = wh l.wt
  wl' : u.wl = wl l.wt
  smp : w.ownsRow base 2 1 u.sv l.smp.length (l.smp.map (Value.int .i64))
  mem : w.ownsRow B 9 1 u.mv l.mem.length (l.mem.map Value.string)
theorem TlAt.upd {S : List Nat} {w w' : World} {base B : Nat} {u : TC} {l : TL} (h : TlAt w base B u l) (hU : Upd S w w') (h1 : ∀ g, u.sv.ownBlock = some g → g ∉ S) (h2 : ∀ g, u.mv.ownBlock = some g → g ∉ S) : TlAt w' base B u l :=
  ⟨h.k, h.n, h.c, h.sh, h.sl, h.wh', h.wl', own_upd h.smp hU h1, own_upd h.mem hU h2⟩
/-- What the gauges tell once the takers 'done' have told. -/
def gAfter (gs : List (ByteArray × Int)) (done : List TR) (x : ByteArray) : Option Int :=
  match done.find? fun t => t.k = 2 ∧ t.n = x with
  | some t => some (t.tk.sum ((gl x gs).getD 0))
  | none => gl x gs
theorem gAfter_nil (gs : List (ByteArray × Int)) (x : ByteArray) : gAfter gs [] x = gl x gs := rfl
theorem gAfter_new {gs : List (ByteArray × Int)} {done : List TR} {x : ByteArray} (h : ∀ t ∈ done, ¬ (t.k = 2 ∧ t.n = x)) : gAfter gs done x = gl x gs := by
  unfold gAfter
  rw [List.find?_eq_none.2 (fun t ht => by simpa using h t ht)]
theorem gAfter_not {gs : List (ByteArray × Int)} {done : List TR} {t : TR} {x : ByteArray} (h : ¬ (t.k = 2 ∧ t.n = x)) : gAfter gs (done ++ [t]) x = gAfter gs done x := by
  unfold gAfter
  rw [List.find?_append]
  cases hd : done.find? fun t => t.k = 2 ∧ t.n = x with
  | some u => rfl
  | none =>
    rw [List.find?_cons]
    simp [h]
theorem gAfter_is {gs : List (ByteArray × Int)} {done : List TR} {t : TR} (h : ∀ u ∈ done, ¬ (u.k = 2 ∧ u.n = t.n)) (hk : t.k = 2) : gAfter gs (done ++ [t]) t.n = some (t.tk.sum ((gl t.n gs).getD 0)) := by
  unfold gAfter
  rw [List.find?_append, List.find?_eq_none.2 (fun u hu => by simpa using h u hu)]
  simp [hk]
theorem modify_mid {α : Type} (f : α → α) (a : α) (l2 : List α) : ∀ l1 : List α, (l1 ++ a :: l2).modify l1.length f = l1 ++ f a :: l2
  | [] => by simp
  | b :: l1 => by simp [modify_mid f a l2 l1]
/-- A gauge's value into the list. -/
theorem put_gl (x : ByteArray) (v : Int) (gs : List (ByteArray × Int)) : ∃ gs2 : List (ByteArray × Int), put x (wide v) (gs.map fun g => (g.1, wide g.2)) = gs2.map (fun g => (g.1, wide g.2)) ∧ ∀ y, gl y gs2 = if y = x then some v else gl y gs := by
  rcases split_key x gs with h | ⟨l1, u, l2, rfl, h⟩
  · refine ⟨gs ++ [(x, v)], by rw [put_new _ _ _ (by rw [List.map_map]; exact h)]; simp, fun y => ?_⟩
    unfold gl
    rw [List.find?_append]
    by_cases e : y = x
    · subst e
      rw [if_pos rfl, List.find?_eq_none.2 (fun p hp => by simpa using fun e : p.1 = y => h (e ▸ List.mem_map_of_mem hp))]
      simp
    · rw [if_neg e]
      cases List.find? (fun p => decide (p.1 = y)) gs with
      | some p => rfl
      | none => simp; exact fun e2 => e e2.symm
  · refine ⟨l1 ++ (x, v) :: l2, ?_, fun y => ?_⟩
    · unfold put
      rw [List.map_append, List.map_cons, place_split x _ _ _ 0 (by rw [List.map_map]; exact h), Nat.zero_add]
      simp only [List.map_append, List.map_cons]
      rw [modify_mid]
    · unfold gl
      simp only [List.find?_append, List.find?_cons]
      by_cases e : y = x
      · subst e
        rw [if_pos rfl, List.find?_eq_none.2 (fun p hp => by simpa using fun e : p.1 = y => h (e ▸ List.mem_map_of_mem hp))]
        simp
      · rw [if_neg e]
        have e2 : ¬ x = y := fun e2 => e e2.symm
        simp [e2]
theorem own_mono {w : World} {base base' size n : Nat} {e : TypeId} {v : Value} {xs : List Value} (h : w.ownsRow base e size v n xs) (hb : base' ≤ base) : w.ownsRow base' e size v n xs := by
  refine ⟨h.1, ?_⟩
  rcases h.2 with h | ⟨g, cap, cur, h1, h2, h3⟩
  · exact .inl h
  · exact .inr ⟨g, cap, cur, h1, Nat.le_trans hb h2, h3⟩
/-- What a taker has told. -/
def TelR (base : Nat) (x : List Nat) (W0 W : World) (n s wt : Int) (smp : List Int) (mem : List ByteArray) (v : Value) : Prop :=
  ∃ sv mv, v = .agg (tallyC 0 ⟨#[]⟩ n s wt sv mv).toArray ∧ W.ownsRow base 2 1 sv smp.length (smp.map (Value.int .i64)) ∧ W.ownsRow W0.heap.size 9 1 mv mem.length (mem.map Value.string) ∧ ∀ g, sv.ownBlock = some g → g ∈ x
theorem TelR.upd0 {base : Nat} {x : List Nat} {W0 W W' : World} {n s wt : Int} {smp : List Int} {mem : List ByteArray} {v : Value} (h : TelR base x W0 W n s wt smp mem v) (hU : Upd [] W W') : TelR base x W0 W' n s wt smp mem v := by
  obtain ⟨sv, mv, h1, h2, h3, h4⟩ := h
  exact ⟨sv, mv, h1, own_upd h2 hU (by simp), own_upd h3 hU (by simp), h4⟩
theorem Blk.upd0_g {W0 W W' : World} {T : TypeId} {cs : List Value} {v : Value} (h : Blk W0 W T cs v) (hG : ∃ S, Upd S W W' ∧ ∀ i ∈ S, i < W0.heap.size) : Blk W0 W' T cs v := by
  obtain ⟨b, h1, h2, h3⟩ := h
  obtain ⟨S, g1, g2⟩ := hG
  exact ⟨b, h1, h2, h3.upd g1 (fun hm => by have := g2 b hm; omega)⟩
def tE (t : TR) : (Int × ByteArray) × Value := (t.key, t.val)
/-- The blocks of a told tally's lists. -/
def TC.bl (u : TC) : List Nat := u.sv.ownBlock.toList ++ u.mv.ownBlock.toList
/-- A taker and what it told. -/
def TlOf (w : World) (base B : Nat) (gs : List (ByteArray × Int)) (q : TR × TC) : Prop := TlAt w base B q.2 (q.1.tk.tl q.1.key ((gl q.1.n gs).getD 0)) ∧ ∀ g, q.2.sv.ownBlock = some g → g ∈ q.1.x
theorem TlOf.upd {S : List Nat} {w w' : World} {base B : Nat} {gs : List (ByteArray × Int)} {q : TR × TC} (h : TlOf w base B gs q) (hU : Upd S w w') (h1 : ∀ g ∈ q.1.x, g ∉ S) (h2 : ∀ g, q.2.mv.ownBlock = some g → g ∉ S) : TlOf w' base B gs q :=
  ⟨h.1.upd hU (fun g hg => h1 g (h.2 g hg)) h2, h.2⟩
/-- The round's relation. -/
structure TalInv (w : World) (base a b0 b1 bw it : Nat) (ts : List TR) (gs : List (ByteArray × Int)) (bd : Int) (va : Value) (wr : World) (done : List (TR × TC)) (left : List TR) (gs' : List (ByteArray × Int)) (S : List Nat) : Prop where
  pm : (done.map (·.1) ++ left).Perm ts
  rg : RngAt wr kvM bw it (ts.map tE) (left.map tE)
  row : wr.ownsRow w.heap.size TTal 9 va done.length ((done.map (·.2)).flatMap TC.cells)
  tl : ∀ q ∈ done, TlOf wr base w.heap.size gs q
  tk : ∀ t ∈ left, TakAt wr base t.p t.x t.tk
  hb : HB wr a TAgg [.map (some b0), .map (some b1), .int .i64 bd]
  ga : MapAt wr Value.string b1 (gs'.map fun g => (g.1, wide g.2))
  gl : ∀ x, gl x gs' = gAfter gs (done.map (·.1)) x
  up : Upd S w wr
  sS : ∀ b ∈ S, b = b1 ∨ ∃ t ∈ ts, b ∈ t.x
  nd : (done.flatMap fun q => q.2.bl).Nodup
theorem sum_base {tk : TK} (h : tk.kind ≠ 2) (b b' : Int) : tk.sum b = tk.sum b' := by
  cases tk <;> simp [TK.kind] at h <;> rfl
theorem infoTl : (Tryz.prog.info? 54).map (fun i => (i.zero, i.size, i.bytes)) = some (some (.agg #[.int .i64 0, .string .empty, .int .i64 0, .int .i64 0, .int .u64 0, .int .i64 0, .int .u64 0, .slice none 0 0, .slice none 0 0]), 9, 112) := by kernel_rfl
theorem nodup_snoc {α : Type} {l : List α} {m : List α} (h : l.Nodup) (k : m.Nodup) (hd : ∀ x ∈ l, x ∉ m) : (l ++ m).Nodup := by
  rw [List.nodup_append]
  exact ⟨h, k, fun a ha b hb e => hd a ha (e ▸ hb)⟩
theorem gAfter_bd {gs : List (ByteArray × Int)} {done : List TR} {x : ByteArray} {N : Nat} (hN : ∀ t ∈ done, t.tk.ok N) (hN2 : N ≤ 4194304) (hg : ∀ x v, gl x gs = some v → v.natAbs ≤ 100000000000000000000000000) : ((gAfter gs done x).getD 0).natAbs ≤ 1000000000000000000000000000 := by
  have hb : ((gl x gs).getD 0).natAbs ≤ 100000000000000000000000000 := by
    cases h : gl x gs with
    | none => simp
    | some v => simpa using hg x v h
  unfold gAfter
  cases hf : done.find? fun t => t.k = 2 ∧ t.n = x with
  | none =>
    show ((gl x gs).getD 0).natAbs ≤ _
    omega
  | some t =>
    have ht := hN t (List.mem_of_find?_eq_some hf)
    show (t.tk.sum ((gl x gs).getD 0)).natAbs ≤ _
    generalize (gl x gs).getD 0 = b at hb
    cases htk : t.tk <;> rw [htk] at ht <;> simp only [TK.ok, TK.sum] at ht ⊢
    · omega
    · split <;> omega
    · omega
    · simp
theorem inj_key {α κ : Type} (f : α → κ) : ∀ {l : List α}, (l.map f).Nodup → ∀ {a b : α}, a ∈ l → b ∈ l → f a = f b → a = b
  | [], _, a, b, ha, _, _ => by cases ha
  | c :: l, hn, a, b, ha, hb, e => by
    rw [List.map_cons, List.nodup_cons] at hn
    rcases List.mem_cons.1 ha with e1 | h1
    · rcases List.mem_cons.1 hb with e2 | h2
      · rw [e1, e2]
      · exact absurd (by rw [← e1, e]; exact List.mem_map_of_mem h2) hn.1
    · rcases List.mem_cons.1 hb with e2 | h2
      · exact absurd (by rw [← e2, ← e]; exact List.mem_map_of_mem h1) hn.1
      · exact inj_key f hn.2 h1 h2 e
theorem gAfter_perm {gs : List (ByteArray × Int)} {l m : List TR} (hp : l.Perm m) (hn : (m.map TR.key).Nodup) (x : ByteArray) : gAfter gs l x = gAfter gs m x := by
  unfold gAfter
  cases h1 : l.find? fun t => t.k = 2 ∧ t.n = x with
  | none =>
    rw [List.find?_eq_none.2 (fun t ht => List.find?_eq_none.1 h1 t (hp.mem_iff.2 ht))]
  | some t =>
    have t1 := hp.mem_iff.1 (List.mem_of_find?_eq_some h1)
    have t2 : t.k = 2 ∧ t.n = x := by simpa using List.find?_some h1
    cases h2 : m.find? fun t => t.k = 2 ∧ t.n = x with
    | none => exact absurd t2 (by simpa using List.find?_eq_none.1 h2 t t1)
    | some u =>
      have u1 := List.mem_of_find?_eq_some h2
      have u2 : u.k = 2 ∧ u.n = x := by simpa using List.find?_some h2
      rw [inj_key TR.key hn t1 u1 (by unfold TR.key; rw [t2.1, t2.2, u2.1, u2.2])]
def TK.uc (t : TR) (n0 s0 wt0 : Int) (As : Option Addr) (ns cs : Nat) (Am : Option Addr) (nm cm : Nat) : TC := ⟨t.k, t.n, n0, wh s0, wl s0, wh wt0, wl wt0, As, ns, cs, Am, nm, cm⟩
end Go.Proofs.YthbjpoiolmlpmaaGreatDoor
