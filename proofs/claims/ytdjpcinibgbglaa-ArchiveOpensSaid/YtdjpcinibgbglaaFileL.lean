/- How a band, how a file lies in memory. The archives' plain laws: what a put keeps, how great what is known and rolled may be. (*band).put. (*band).known. (*File).reaches. -/
import Derived.Test.YtdjpcinibgbglaaFn
import Derived.Deep.RegionWith
set_option linter.unusedVariables false
set_option linter.unusedSimpArgs false
namespace Go.Proofs.Ytdjpcinibgbglaa
open Go.RowKit

structure Loc where
  b : Nat
  l : Nat
  i : Nat
def ptC : Option Pt → List Value
  | none => [.int .i64 0, .int .i64 0, .int .u64 0]
  | some p => [.int .i64 p.t, .int .i64 (wh p.v), .int .u64 (wl p.v)]
def flC (o : Option Pt) : List Value := [.bool o.isSome]
theorem ptC_len (x : Option Pt) : (ptC x).length = 3 := by cases x <;> rfl
theorem flC_len (x : Option Pt) : (flC x).length = 1 := rfl
structure BandAt (w : World) (L : Loc) (b : Band) : Prop where
  hb : HB w L.b 107 (bandC b L.l L.i)
  hl : HB w L.l 49 (b.pl.flatMap ptC)
  hi : HB w L.i 4 (b.pl.flatMap flC)
theorem BandAt.upd {S : List Nat} {w w' : World} {L : Loc} {b : Band} (h : BandAt w L b) (hU : Upd S w w') (h1 : L.b ∉ S) (h2 : L.l ∉ S) (h3 : L.i ∉ S) : BandAt w' L b :=
  ⟨h.hb.upd hU h1, h.hl.upd hU h2, h.hi.upd hU h3⟩
theorem BandAt.upd0 {w w' : World} {L : Loc} {b : Band} (h : BandAt w L b) (hU : Upd [] w w') : BandAt w' L b := h.upd hU (by simp) (by simp) (by simp)
/-- Place k, cell by cell. -/
theorem BandAt.pt {w : World} {L : Loc} {b : Band} (h : BandAt w L b) {k : Nat} {x : Option Pt} (hx : b.pl[k]? = some x) {j : Nat} {u : Value} (hj : (ptC x)[j]? = some u) : w.cell? ⟨L.l, k * 3 + j, none⟩ = some u :=
  h.hl.cell (flatMap_get ptC ptC_len _ k x hx j u hj)
theorem BandAt.fl {w : World} {L : Loc} {b : Band} (h : BandAt w L b) {k : Nat} {x : Option Pt} (hx : b.pl[k]? = some x) : w.cell? ⟨L.i, k, none⟩ = some (.bool x.isSome) := by
  have := h.hi.cell (flatMap_get flC flC_len _ k x hx 0 _ rfl)
  simpa using this
structure Band.ok (b : Band) : Prop where
  spc : okSpc b.spc = true
  pts : ∀ (k : Nat) (p : Pt), b.pl[k]? = some (some p) → 0 ≤ p.t ∧ p.t ≤ 1099511627775 ∧ p.t % b.step = 0 ∧ b.place p.t = k ∧ (p.v.natAbs : Int) ≤ 1208925819614629174706176 * b.step
theorem Band.ok.b {b : Band} (h : b.ok) : 1 ≤ b.step ∧ b.step ≤ 1099511627775 ∧ 1 ≤ b.n ∧ b.n ≤ 4096 ∧ 1 ≤ reachS b.spc ∧ reachS b.spc ≤ 1099511627775 := by
  have h1 := okSpc_iff.1 h.spc
  have h2 := reach_le h.spc
  simp only [Band.spc] at *
  omega
theorem Band.ok.big {b : Band} (h : b.ok) {k : Nat} {p : Pt} (hp : b.pl[k]? = some (some p)) : I128 p.v := by
  have h1 := (h.pts k p hp).2.2.2.2
  have h2 := h.b
  unfold I128
  omega
def muts (Ls : List Loc) : List Nat := Ls.flatMap fun L => [L.l, L.i]
/-- The number of the function of a method. -/
def rollF (m : Int) : Nat := if m = 1 then 66 else if m = 2 then 67 else if m = 3 then 68 else if m = 4 then 69 else 70
abbrev rollV (m : Int) : Value := .func (.func (rollF m)) #[] #[]
structure FileAt (w : World) (base : Nat) (fb : Nat) (f : Fl) (v : Value) (Ls : List Loc) : Prop where
  hf : HB w fb 77 [.int .i64 f.m, .int .i64 f.xff, v, rollV f.m]
  row : RowK w (fun b => v.ownBlock = some b) (fun L => [pB L.b]) 1 v Ls
  len : Ls.length = f.bands.length
  band : ∀ (k : Nat) (L : Loc) (b : Band), Ls[k]? = some L → f.bands[k]? = some b → BandAt w L b
  nodup : (muts Ls).Nodup
  own : ∀ g, v.ownBlock = some g → g ∉ muts Ls
  up : ∀ x ∈ muts Ls, base ≤ x
  low : ∀ g, v.ownBlock = some g → base ≤ g
theorem mem_muts {Ls : List Loc} {k : Nat} {L : Loc} (h : Ls[k]? = some L) : L.l ∈ muts Ls ∧ L.i ∈ muts Ls := by
  have hm := List.mem_of_getElem? h
  unfold muts
  simp only [List.mem_flatMap]
  exact ⟨⟨L, hm, by simp⟩, ⟨L, hm, by simp⟩⟩
theorem FileAt.upd0 {w w' : World} {base fb : Nat} {f : Fl} {v : Value} {Ls : List Loc} (h : FileAt w base fb f v Ls) (hU : Upd [] w w') : FileAt w' base fb f v Ls :=
  ⟨h.hf.upd hU (by simp), h.row.upd0 hU, h.len, fun k L b h1 h2 => (h.band k L b h1 h2).upd0 hU, h.nodup, h.own, h.up, h.low⟩
structure Fl.ok (f : Fl) : Prop where
  m : 1 ≤ f.m ∧ f.m ≤ 5
  x : 0 ≤ f.xff ∧ f.xff ≤ 1000000
  ne : f.bands ≠ []
  le : f.bands.length ≤ 8
  bands : ∀ b ∈ f.bands, b.ok
  pairs : ∀ (k : Nat) (a b : Band), f.bands[k]? = some a → f.bands[k + 1]? = some b → okPair a.spc b.spc = true
/-- The bands' blocks. -/
theorem FileAt.mem {w : World} {base fb : Nat} {f : Fl} {v : Value} {Ls : List Loc} (h : FileAt w base fb f v Ls) {x : Nat} (hx : x ∈ muts Ls) : ∃ (k : Nat) (L : Loc) (b : Band), Ls[k]? = some L ∧ f.bands[k]? = some b ∧ (x = L.l ∨ x = L.i) := by
  unfold muts at hx
  simp only [List.mem_flatMap] at hx
  obtain ⟨L, hL, hx⟩ := hx
  obtain ⟨k, hk, e⟩ := List.mem_iff_getElem.1 hL
  have hk2 : k < f.bands.length := by have := h.len; omega
  refine ⟨k, L, f.bands[k], by rw [List.getElem?_eq_getElem hk, e], List.getElem?_eq_getElem hk2, by simpa using hx⟩
theorem FileAt.hb_ne {w : World} {base fb : Nat} {f : Fl} {v : Value} {Ls : List Loc} (h : FileAt w base fb f v Ls) {x : Nat} {T : TypeId} {c : List Value} (hx : HB w x T c) (h1 : T ≠ 49) (h2 : T ≠ 4) : x ∉ muts Ls := by
  intro hm
  obtain ⟨k, L, b, hL, hb, e | e⟩ := h.mem hm
  · subst e; exact (hx.ne (h.band k L b hL hb).hl h1) rfl
  · subst e; exact (hx.ne (h.band k L b hL hb).hi h2) rfl
/-- Blocks that lie below the file's own (and hold no band, no file) may turn. -/
theorem FileAt.upd_lo {S : List Nat} {w w' : World} {base fb : Nat} {f : Fl} {v : Value} {Ls : List Loc} (h : FileAt w base fb f v Ls) (hU : Upd S w w') (hlo : ∀ x ∈ S, x < base) (hfb : fb ∉ S) (hb : ∀ (k : Nat) (L : Loc), Ls[k]? = some L → L.b ∉ S) : FileAt w' base fb f v Ls := by
  have hm : ∀ x ∈ muts Ls, x ∉ S := fun x hx hs => by have := h.up x hx; have := hlo x hs; omega
  refine ⟨h.hf.upd hU hfb, h.row.upd hU (fun y hy e => by have := h.low y e; have := hlo y hy; omega), h.len, ?_, h.nodup, h.own, h.up, h.low⟩
  intro k L b hL hk
  have hL2 := mem_muts hL
  exact (h.band k L b hL hk).upd hU (hb k L hL) (hm _ hL2.1) (hm _ hL2.2)
theorem FileAt.upd_ty {w w' : World} {base fb g : Nat} {f : Fl} {v : Value} {Ls : List Loc} {T : TypeId} {c : List Value} (h : FileAt w base fb f v Ls) (hg : HB w g T c) (h1 : T ≠ 77) (h2 : T ≠ 107) (hlo : g < base) (hU : Upd [g] w w') : FileAt w' base fb f v Ls := by
  refine h.upd_lo hU (fun x hx => by simp at hx; omega) (fun hx => by simp at hx; subst hx; exact hg.ne h.hf h1 rfl) (fun k L hL hx => ?_)
  have hk : k < f.bands.length := by have := (List.getElem?_eq_some_iff.1 hL).1; have := h.len; omega
  simp at hx
  subst hx
  exact hg.ne (h.band k L _ hL (List.getElem?_eq_getElem hk)).hb h2 rfl
end Go.Proofs.Ytdjpcinibgbglaa
namespace Go.Proofs.Ytdjpcinibgbglaa
theorem Band.put_n (b : Band) (t v : Int) : (b.put t v).n = b.n := by simp [Band.put, Band.n]
theorem Band.put_spc (b : Band) (t v : Int) : (b.put t v).spc = b.spc := by simp [Band.spc, Band.put_n]; rfl
theorem Band.put_place (b : Band) (t v x : Int) : (b.put t v).place x = b.place x := by unfold Band.place; rw [Band.put_n]; rfl
theorem sub_mod {t s : Int} (hs : 1 ≤ s) : (t - t % s) % s = 0 ∧ (t - t % s) / s = t / s := by
  have h1 := Int.mul_ediv_add_emod t s
  have h2 : t - t % s = t / s * s := by rw [Int.mul_comm]; omega
  rw [h2]
  exact ⟨Int.mul_emod_left _ _, Int.mul_ediv_cancel _ (by omega)⟩
theorem Band.put_ok {b : Band} (h : b.ok) {t v : Int} (ht : 0 ≤ t ∧ t ≤ 1099511627775) (hv : (v.natAbs : Int) ≤ 1208925819614629174706176 * b.step) : (b.put t v).ok where
  spc := by rw [Band.put_spc]; exact h.spc
  pts := by
    intro k p hp
    rw [Band.put_place]
    show 0 ≤ p.t ∧ p.t ≤ 1099511627775 ∧ p.t % b.step = 0 ∧ b.place p.t = k ∧ (p.v.natAbs : Int) ≤ 1208925819614629174706176 * b.step
    unfold Band.put at hp
    dsimp only at hp
    have hs := h.b.1
    by_cases hk : b.place t = k
    · subst hk
      have hl : b.place t < b.pl.length := by
        have := (List.getElem?_eq_some_iff.1 hp).1
        simpa using this
      rw [List.getElem?_set_self hl] at hp
      simp only [Option.some.injEq] at hp
      subst hp
      have h1 := emod_le' ht.1 hs
      have h2 := sub_mod (t := t) hs
      refine ⟨by dsimp only; omega, by dsimp only; omega, h2.1, ?_, hv⟩
      unfold Band.place
      dsimp only
      rw [h2.2]
    · rw [List.getElem?_set_ne hk] at hp
      exact h.pts k p hp
theorem Band.known_le {b : Band} (h : b.ok) {t z : Int} (hz : b.known t = some z) : (z.natAbs : Int) ≤ 1208925819614629174706176 * b.step := by
  unfold Band.known at hz
  split at hz
  · cases hz
  · split at hz
    · rename_i p hp
      split at hz
      · injection hz with hz
        subst hz
        exact (h.pts _ p hp).2.2.2.2
      · cases hz
    · cases hz
theorem knowns_le {b : Band} (h : b.ok) (frm : Int) (n : Nat) : (∀ z ∈ knowns b frm n, (z.natAbs : Int) ≤ 1208925819614629174706176 * b.step) ∧ (knowns b frm n).length ≤ n := by
  constructor
  · intro z hz
    unfold knowns at hz
    simp only [List.mem_filterMap] at hz
    obtain ⟨k, _, hk⟩ := hz
    exact Band.known_le h hk
  · have := List.length_filterMap_le (fun (k : Nat) => b.known (frm + (k : Int) * b.step)) (List.range n)
    rw [List.length_range] at this
    exact this
theorem knowns_succ (b : Band) (frm : Int) (n : Nat) : knowns b frm (n + 1) = knowns b frm n ++ (b.known (frm + (n : Int) * b.step)).toList := by
  unfold knowns
  rw [List.range_succ, List.filterMap_append]
  cases h : b.known (frm + (n : Int) * b.step) <;> simp [h]
theorem sum_le {B : Int} : ∀ (l : List Int), (∀ z ∈ l, (z.natAbs : Int) ≤ B) → (l.sum.natAbs : Int) ≤ l.length * B
  | [], _ => by simp
  | x :: l, h => by
    have h1 := sum_le l (fun z hz => h z (by simp [hz]))
    have h2 := h x (by simp)
    have h3 : (((x :: l).length : Nat) : Int) * B = (l.length : Int) * B + B := by rw [List.length_cons, Int.natCast_succ, Int.add_mul, Int.one_mul]
    rw [List.sum_cons, h3]
    omega
theorem foldl_mem {f : Int → Int → Int} (hf : ∀ a b, f a b = a ∨ f a b = b) : ∀ (l : List Int) (a : Int), l.foldl f a = a ∨ l.foldl f a ∈ l
  | [], a => .inl rfl
  | x :: l, a => by
    rw [List.foldl_cons]
    rcases foldl_mem hf l (f a x) with h | h
    · rw [h]
      rcases hf a x with h2 | h2
      · exact .inl h2
      · exact .inr (by simp [h2])
    · exact .inr (by simp [h])
theorem rolled_le {m B S : Int} {zs : List Int} (hne : zs ≠ []) (h : ∀ z ∈ zs, (z.natAbs : Int) ≤ B) (hB : (zs.length : Int) * B ≤ S) : ((rolledM m zs).natAbs : Int) ≤ S := by
  have h1 := sum_le zs h
  obtain ⟨x, l, rfl⟩ : ∃ x l, zs = x :: l := by
    cases zs with
    | nil => exact absurd rfl hne
    | cons x l => exact ⟨x, l, rfl⟩
  have hx := h x (by simp)
  have hBS : B ≤ S := by
    have h3 : (((x :: l).length : Nat) : Int) * B = (l.length : Int) * B + B := by rw [List.length_cons, Int.natCast_succ, Int.add_mul, Int.one_mul]
    have h4 : 0 ≤ (l.length : Int) * B := Int.mul_nonneg (by omega) (by omega)
    omega
  unfold rolledM
  split
  · have := Int.natAbs_tdiv_le_natAbs (x :: l).sum ((x :: l).length : Int)
    omega
  · split
    · omega
    · have hm : ∀ z, z ∈ x :: l → (z.natAbs : Int) ≤ S := fun z hz => Int.le_trans (h z hz) hBS
      split
      · have e : (x :: l).getLastD 0 = (x :: l).getLast (by simp) := by
          rw [List.getLastD_eq_getLast?, List.getLast?_eq_some_getLast (by simp)]
          rfl
        rw [e]
        exact hm _ (List.getLast_mem _)
      · split
        · rcases foldl_mem (f := max) (fun a b => by omega) (x :: l) ((x :: l).headD 0) with e | e
          · rw [e]; exact hm _ (by simp)
          · exact hm _ e
        · rcases foldl_mem (f := min) (fun a b => by omega) (x :: l) ((x :: l).headD 0) with e | e
          · rw [e]; exact hm _ (by simp)
          · exact hm _ e
theorem Fl.ok.put {f : Fl} (h : f.ok) {k : Nat} {b : Band} (hk : f.bands[k]? = some b) {t v : Int} (ht : 0 ≤ t ∧ t ≤ 1099511627775) (hv : (v.natAbs : Int) ≤ 1208925819614629174706176 * b.step) : Fl.ok { f with bands := f.bands.set k (b.put t v) } where
  m := h.m
  x := h.x
  ne := by have := h.ne; intro e; simp at e; exact this e
  le := by simpa using h.le
  bands := by
    intro c hc
    rcases List.mem_or_eq_of_mem_set hc with hc | rfl
    · exact h.bands c hc
    · exact Band.put_ok (h.bands b (List.mem_of_getElem? hk)) ht hv
  pairs := by
    have key : ∀ (j : Nat) (c : Band), (f.bands.set k (b.put t v))[j]? = some c → ∃ c', f.bands[j]? = some c' ∧ c'.spc = c.spc := by
      intro j c hc
      by_cases hj : k = j
      · subst hj
        have hl : k < f.bands.length := (List.getElem?_eq_some_iff.1 hk).1
        rw [List.getElem?_set_self hl] at hc
        injection hc with hc
        subst hc
        exact ⟨b, hk, (Band.put_spc b t v).symm⟩
      · rw [List.getElem?_set_ne hj] at hc
        exact ⟨c, hc, rfl⟩
    intro j a c ha hc
    obtain ⟨a', ha', e1⟩ := key j a ha
    obtain ⟨c', hc', e2⟩ := key (j + 1) c hc
    rw [← e1, ← e2]
    exact h.pairs j a' c' ha' hc'
end Go.Proofs.Ytdjpcinibgbglaa
namespace Go.Proofs.Ytdjpcinibgbglaa
open Go.RowKit
abbrev ptV (p : Pt) : Value := .agg #[.int .i64 p.t, .int .i64 (wh p.v), .int .u64 (wl p.v)]
theorem fm_set3 : ∀ (xs : List (Option Pt)) (k : Nat) (y : Option Pt) (c0 c1 c2 : Value), k < xs.length → ptC y = [c0, c1, c2] →
    (((xs.flatMap ptC).set (k * 3) c0).set (k * 3 + 1) c1).set (k * 3 + 2) c2 = (xs.set k y).flatMap ptC
  | [], k, y, c0, c1, c2, hk, hy => by simp at hk
  | x :: xs, 0, y, c0, c1, c2, hk, hy => by
    obtain ⟨d0, d1, d2, hd⟩ : ∃ d0 d1 d2, ptC x = [d0, d1, d2] := by cases x <;> exact ⟨_, _, _, rfl⟩
    simp [List.flatMap_cons, hd, hy]
  | x :: xs, k + 1, y, c0, c1, c2, hk, hy => by
    obtain ⟨d0, d1, d2, hd⟩ : ∃ d0 d1 d2, ptC x = [d0, d1, d2] := by cases x <;> exact ⟨_, _, _, rfl⟩
    have ih := fm_set3 xs k y c0 c1 c2 (by simpa using hk) hy
    rw [List.flatMap_cons, List.set_cons_succ, List.flatMap_cons, hd, ← ih, show (k + 1) * 3 = k * 3 + 3 by omega, show k * 3 + 3 + 1 = k * 3 + 1 + 3 by omega, show k * 3 + 3 + 2 = k * 3 + 2 + 3 by omega]
    rfl
theorem fm_set1 : ∀ (xs : List (Option Pt)) (k : Nat) (y : Option Pt), (xs.flatMap flC).set k (.bool y.isSome) = (xs.set k y).flatMap flC
  | [], k, y => by simp
  | x :: xs, 0, y => by simp [List.flatMap_cons, flC]
  | x :: xs, k + 1, y => by
    have ih := fm_set1 xs k y
    rw [List.flatMap_cons, List.set_cons_succ, List.flatMap_cons, ← ih]
    rfl
set_option maxHeartbeats 1000000 in
theorem cput_calls (L : Loc) (b : Band) (k : Nat) (p : Pt) (w : World) (hB : BandAt w L b) (hk : k < b.n) (hn : b.n ≤ 4096) (hli : L.l ≠ L.i) :
    Calls Try.prog 75 #[.pointer (some ⟨L.b, 2, none⟩), .int .i64 k, ptV p] w fun e w' => e = .returned (.tuple #[]) ∧ Upd [L.l, L.i] w w' ∧ BandAt w' L { b with pl := b.pl.set k (some p) } := by
  obtain ⟨x, hx⟩ : ∃ x, b.pl[k]? = some x := ⟨_, List.getElem?_eq_getElem hk⟩
  obtain ⟨c0, c1, c2, hc⟩ : ∃ c0 c1 c2, ptC x = [c0, c1, c2] := by cases x <;> exact ⟨_, _, _, rfl⟩
  obtain ⟨t, v⟩ := p
  have hlb := hB.hb.ne hB.hl (by decide)
  have hib := hB.hb.ne hB.hi (by decide)
  have l1 := hB.hb.lt
  have l2 := hB.hl.lt
  have l3 := hB.hi.lt
  unfold ptV
  dsimp only
  obtain ⟨W0, hW0⟩ : ∃ W0, W0 = w.alloc (.cells #[.int .i64 t, .int .i64 (wh v), .int .u64 (wl v)] 49) := ⟨_, rfl⟩
  have hU0 := Lib.hid (show Upd [] w W0 by rw [hW0]; exact (Upd.refl _ _).alloc _)
  have hB0 := hB.upd0 hU0.out
  have hp0 : HB W0 w.heap.size 49 [.int .i64 t, .int .i64 (wh v), .int .u64 (wl v)] := by rw [hW0]; exact HB.new w _ [.int .i64 t, .int .i64 (wh v), .int .u64 (wl v)]
  have a0 := hB0.hb.cell (j := 2) rfl
  have a1 := hB0.hb.cell (j := 3) rfl
  have p0 := hp0.cell (j := 0) rfl
  have p1 := hp0.cell (j := 1) rfl
  have p2 := hp0.cell (j := 2) rfl
  have q0 : W0.cell? ⟨L.l, k * 3, none⟩ = some c0 := hB0.pt (j := 0) hx (by rw [hc]; rfl)
  have q1 : W0.cell? ⟨L.l, k * 3 + 1, none⟩ = some c1 := hB0.pt (j := 1) hx (by rw [hc]; rfl)
  have q2 : W0.cell? ⟨L.l, k * 3 + 2, none⟩ = some c2 := hB0.pt (j := 2) hx (by rw [hc]; rfl)
  have f0 := hB0.hl.free (k * 3)
  have f1 := hB0.hl.free (k * 3 + 1)
  have f2 := hB0.hl.free (k * 3 + 2)
  have r0 := hB0.fl hx
  have rf0 := hB0.hi.free k
  have HBN := Lib.hid hB0.hb
  have HLN := Lib.hid hB0.hl
  have HIN := Lib.hid hB0.hi
  have e1 : ¬ (L.l = w.heap.size) := by omega
  have e2 : ¬ (L.i = w.heap.size) := by omega
  have e3 : ¬ (L.b = w.heap.size) := by omega
  have e4 : ¬ (w.heap.size = L.l) := by omega
  have e5 : ¬ (w.heap.size = L.i) := by omega
  have e6 : ¬ (L.b = L.l) := hlb
  have e7 : ¬ (L.b = L.i) := hib
  have e8 : ¬ (L.l = L.b) := fun e => hlb e.symm
  have e9 : ¬ (L.i = L.b) := fun e => hib e.symm
  have e10 : ¬ (L.l = L.i) := hli
  have e11 : ¬ (L.i = L.l) := fun e => hli e.symm
  have hkI : (k : Int) < (b.n : Int) := by omega
  clear hB hB0 hp0 l1 l2 l3 hlb hib hli hx hc
  go_enter Try.func75, Try.ntmps75
  go_wp2
  rw [← hW0]
  clear hW0
  go_region
  go_wp2
  refine bodyPost_end (v := .tuple #[]) ?_ rfl ⟨rfl, ?_, ?_, ?_, ?_⟩
  · simp [results, Try.f75, go_sem]
  · refine Upd.drew (Upd.setCell (Upd.setCell (Upd.setCell (Upd.setCell hU0.out.of0 ?_ _) ?_ _) ?_ _) ?_ _) <;> exact .inl (by simp)
  · have eC : bandC { b with pl := b.pl.set k (some ⟨t, v⟩) } L.l L.i = bandC b L.l L.i := by simp [bandC, Band.n]
    rw [eC]
    repeat (first | with_reducible exact HBN.out | with_reducible refine HB.drew ?_ | (with_reducible refine HB.setNe ?_ ?h _; case h => (dsimp only; assumption)))
  · have e := fm_set3 b.pl k (some ⟨t, v⟩) _ _ _ hk rfl
    dsimp only
    rw [← e]
    exact HB.drew (HB.setNe (HB.set (HB.set (HB.set HLN.out (k * 3) _) (k * 3 + 1) _) (k * 3 + 2) _) (by dsimp only; assumption) _)
  · have e := fm_set1 b.pl k (some ⟨t, v⟩)
    dsimp only
    rw [← e]
    refine HB.drew (HB.set ?_ k _)
    repeat (first | with_reducible exact HIN.out | (with_reducible refine HB.setNe ?_ ?h _; case h => (dsimp only; assumption)))
theorem bput_calls (L : Loc) (b : Band) (t v : Int) (w : World) (hB : BandAt w L b) (hs : 1 ≤ b.step) (hn : 1 ≤ b.n) (hn2 : b.n ≤ 4096) (ht : T62 t) (hli : L.l ≠ L.i) :
    Calls Try.prog 45 #[pB L.b, .int .i64 t, wide v] w fun e w' => e = .returned (.tuple #[]) ∧ Upd [L.l, L.i] w w' ∧ BandAt w' L (b.put t v) := by
  go_enter Try.func45, Try.ntmps45
  go_wp2_with fail
  have hU0 := (Upd.refl [] w).alloc (.cells #[.int .i64 (wh v), .int .u64 (wl v)] 47)
  refine (interval_calls L.b L.l L.i b t _ (hB.hb.upd hU0 (by simp)) hs ht).mono ?_
  rintro e w1 ⟨rfl, rfl⟩
  go_wp2_with fail
  have HP := Lib.hid (fun W (hW : Upd [] w W) => place_calls L.b L.l L.i b (t - t % b.step) W (hB.hb.upd hW (by simp)) hs hn hn2 (by have := emod_le' ht.1 hs; unfold T62 at *; omega))
  have hw := HB.new w 47 [.int .i64 (wh v), .int .u64 (wl v)]
  have y0 := hw.cell (j := 0) rfl
  have y1 := hw.cell (j := 1) rfl
  have hpl : b.place (t - t % b.step) = b.place t := by
    unfold Band.place
    congr 2
    have h1 := Int.mul_ediv_add_emod t b.step
    have h2 : t - t % b.step = t / b.step * b.step := by rw [Int.mul_comm]; omega
    rw [h2, Int.mul_ediv_cancel _ (by omega)]
  rw [hpl] at HP
  have HC := Lib.hid (fun W (hW : Upd [] w W) => cput_calls L b (b.place t) ⟨t - t % b.step, v⟩ W (hB.upd0 hW) (place_nat hs hn ht.1).2 hn2 hli)
  have hput : { b with pl := b.pl.set (b.place t) (some ⟨t - t % b.step, v⟩) } = b.put t v := rfl
  rw [hput] at HC
  have HU0 := Lib.hid hU0
  clear hw hpl hput hB ht
  go_region_with (first
    | (go_at_call 76; refine (HP.out _ (by repeat (first | exact hU0 | refine Upd.drew ?_ | refine Upd.drewN ?_ _))).mono ?_; rintro e w1 ⟨rfl, n, rfl⟩)
    | (go_at_call 75; refine (HC.out _ (by repeat (first | exact hU0 | refine Upd.drew ?_ | refine Upd.drewN ?_ _))).mono ?_; rintro e w2 ⟨rfl, hU2, hB2⟩))
  all_goals
    go_wp2
    refine bodyPost_end (v := .tuple #[]) ?_ rfl ⟨rfl, ?_, hB2⟩
    · simp [results, Try.f45, go_sem]
    · first | exact (HU0.out.drewN _).of0.then hU2 | exact HU0.out.drew.of0.then hU2 | exact HU0.out.of0.then hU2
end Go.Proofs.Ytdjpcinibgbglaa
namespace Go.Proofs.Ytdjpcinibgbglaa
open Go.RowKit
theorem wzero : wh 0 = 0 ∧ wl 0 = 0 := ⟨rfl, rfl⟩
set_option maxHeartbeats 1000000 in
theorem known_calls (L : Loc) (b : Band) (t : Int) (w : World) (hB : BandAt w L b) (hs : 1 ≤ b.step) (hn : 1 ≤ b.n) (hn2 : b.n ≤ 4096) (ht : t ≤ 4611686018427387904) :
    Calls Try.prog 47 #[pB L.b, .int .i64 t] w fun e w' => e = .returned (.tuple #[wide ((b.known t).getD 0), .bool (b.known t).isSome]) ∧ Upd [] w w' := by
  have hz := HB.new w 47 [.int .i64 0, .int .u64 0]
  by_cases h0 : t < 0
  · have e0 : b.known t = none := by unfold Band.known; rw [if_pos h0]
    rw [e0]
    have z0 := hz.cell (j := 0) rfl
    have z1 := hz.cell (j := 1) rfl
    have zf0 := hz.free 0
    have zf1 := hz.free 1
    go_enter Try.func47, Try.ntmps47
    go_wp2
    have hy := (hz.set 0 (.int .i64 0)).set 1 (.int .u64 0)
    have y0 := hy.cell (j := 0) rfl
    have y1 := hy.cell (j := 1) rfl
    refine bodyPost_ret (v := .tuple #[.agg #[.int .i64 0, .int .u64 0], .bool false]) ?_ rfl ⟨rfl, ?_⟩
    · simp [results, Try.f47, go_sem, y0, y1]
    · repeat (first | with_reducible exact Upd.refl _ _ | with_reducible refine Upd.alloc ?_ _ | (with_reducible refine Upd.setCell ?_ (.inr ?h) _; case h => (dsimp only; omega)))
  · have hp := place_nat hs hn (show 0 ≤ t by omega)
    obtain ⟨x, hx⟩ : ∃ x, b.pl[b.place t]? = some x := ⟨_, List.getElem?_eq_getElem hp.2⟩
    obtain ⟨k, hk⟩ : ∃ k, k = b.place t := ⟨_, rfl⟩
    have hPC := Lib.hid (fun W (hW : Upd [] w W) => place_calls L.b L.l L.i b t W (hB.hb.upd hW (by simp)) hs hn hn2 ⟨by omega, ht⟩)
    rw [← hk] at hx hp hPC
    have HX := Lib.hid hx
    have z0 := hz.cell (j := 0) rfl
    have z1 := hz.cell (j := 1) rfl
    have zf0 := hz.free 0
    have zf1 := hz.free 1
    have hB0 := hB.upd0 ((Upd.refl [] w).alloc (.cells #[.int .i64 0, .int .u64 0] 47))
    obtain ⟨W0, hW0⟩ : ∃ W0, W0 = w.alloc (.cells #[.int .i64 0, .int .u64 0] 47) := ⟨_, rfl⟩
    have hU0 := Lib.hid (show Upd [] w W0 by rw [hW0]; exact (Upd.refl _ _).alloc _)
    rw [← hW0] at hB0 hz z0 z1 zf0 zf1
    have a0 := hB0.hb.cell (j := 2) rfl
    have a1 := hB0.hb.cell (j := 3) rfl
    have r0 := hB0.fl hx
    have hkI : (k : Int) < (b.n : Int) := by omega
    have HZ := Lib.hid hz
    have HB1 := Lib.hid hB0.hb
    have HI1 := Lib.hid hB0.hi
    have hnlt : w.heap.size < W0.heap.size := by rw [hW0]; simp
    have HLT := Lib.hid hnlt
    have HNC : ∀ (o : Obj) (n : Nat), (((W0.drewN n).alloc o).heap.size) = W0.heap.size + 1 := fun o n => by simp
    rcases x with _ | ⟨t', v'⟩
    · have e0 : b.known t = none := by unfold Band.known; rw [if_neg h0, ← hk, HX.out]
      rw [e0]
      have q0 : W0.cell? ⟨L.l, k * 3, none⟩ = some (.int .i64 0) := hB0.pt (j := 0) hx rfl
      have q1 : W0.cell? ⟨L.l, k * 3 + 1, none⟩ = some (.int .i64 0) := hB0.pt (j := 1) hx rfl
      have q2 : W0.cell? ⟨L.l, k * 3 + 2, none⟩ = some (.int .u64 0) := hB0.pt (j := 2) hx rfl
      have HK := Lib.hid hk
      clear hz hB hB0 hk hp hx hs hn hn2 ht hnlt
      go_enter Try.func47, Try.ntmps47
      go_wp2_with fail
      rw [← hW0]
      refine (hPC.out _ hU0.out).mono ?_
      rintro e w1 ⟨rfl, n, rfl⟩
      clear hW0
      have hN : HB ((W0.drewN n).alloc (.cells #[.int .i64 0, .int .i64 0, .int .u64 0] 49)) W0.heap.size 49 [.int .i64 0, .int .i64 0, .int .u64 0] := HB.new (W0.drewN n) _ [.int .i64 0, .int .i64 0, .int .u64 0]
      have m0 := hN.cell (j := 0) rfl
      have m1 := hN.cell (j := 1) rfl
      have m2 := hN.cell (j := 2) rfl
      have mf0 := hN.free 0
      have mf1 := hN.free 1
      have mf2 := hN.free 2
      have HZ1 := (HZ.out.drewN n).alloc (.cells #[.int .i64 0, .int .i64 0, .int .u64 0] 49)
      have zz0 := HZ1.cell (j := 0) rfl
      have zz1 := HZ1.cell (j := 1) rfl
      have zzf0 := HZ1.free 0
      have zzf1 := HZ1.free 1
      have a1' := (((HB1.out.drewN n).alloc (.cells #[.int .i64 0, .int .i64 0, .int .u64 0] 49))).cell (j := 3) rfl
      have r0' := ((((Upd.refl [] W0).drewN n).alloc (.cells #[.int .i64 0, .int .i64 0, .int .u64 0] 49))).cell r0 (by simp)
      have d3 : ¬ (L.b = W0.heap.size) := by have := HB1.out.lt; omega
      have d4 : ¬ (W0.heap.size = L.b) := by have := HB1.out.lt; omega
      have d5 : ¬ (L.i = W0.heap.size) := by have := HI1.out.lt; omega
      have d6 : ¬ (W0.heap.size = L.i) := by have := HI1.out.lt; omega
      have d1 : ¬ (w.heap.size = W0.heap.size) := by have := HLT.out; omega
      have d2 : ¬ (W0.heap.size = w.heap.size) := by have := HLT.out; omega
      clear hN HZ1 z0 z1 zf0 zf1
      go_wp2
      have hy := ((((((HZ.out.drewN n).alloc (.cells #[.int .i64 0, .int .i64 0, .int .u64 0] 49)).setNe (p := ⟨W0.heap.size, 0, none⟩) d1 (.int .i64 0)).setNe (p := ⟨W0.heap.size, 1, none⟩) d1 (.int .i64 0)).setNe (p := ⟨W0.heap.size, 2, none⟩) d1 (.int .u64 0)).set 0 (.int .i64 0)).set 1 (.int .u64 0)
      have y0 := hy.cell (j := 0) rfl
      have y1 := hy.cell (j := 1) rfl
      refine bodyPost_ret (v := .tuple #[.agg #[.int .i64 0, .int .u64 0], .bool false]) ?_ rfl ⟨rfl, ?_⟩
      · simp [results, Try.f47, go_sem, y0, y1]
      · have hlt := HLT.out
        repeat (first | with_reducible exact hU0.out | with_reducible refine Upd.alloc ?_ _ | with_reducible refine Upd.drewN ?_ _ | (with_reducible refine Upd.setCell ?_ (.inr ?h) _; case h => (dsimp only; omega)))
    · by_cases ht' : t' = t
      · have e0 : b.known t = some v' := by unfold Band.known; rw [if_neg h0, ← hk, HX.out]; simp only; rw [if_pos ht']
        rw [e0]
        subst ht'
        have q0 : W0.cell? ⟨L.l, k * 3, none⟩ = some (.int .i64 t') := hB0.pt (j := 0) hx rfl
        have q1 : W0.cell? ⟨L.l, k * 3 + 1, none⟩ = some (.int .i64 (wh v')) := hB0.pt (j := 1) hx rfl
        have q2 : W0.cell? ⟨L.l, k * 3 + 2, none⟩ = some (.int .u64 (wl v')) := hB0.pt (j := 2) hx rfl
        have HK := Lib.hid hk
        clear hz hB hB0 hk hp hx hs hn hn2 ht hnlt
        go_enter Try.func47, Try.ntmps47
        go_wp2_with fail
        rw [← hW0]
        refine (hPC.out _ hU0.out).mono ?_
        rintro e w1 ⟨rfl, n, rfl⟩
        clear hW0
        have hN : HB ((W0.drewN n).alloc (.cells #[.int .i64 0, .int .i64 0, .int .u64 0] 49)) W0.heap.size 49 [.int .i64 0, .int .i64 0, .int .u64 0] := HB.new (W0.drewN n) _ [.int .i64 0, .int .i64 0, .int .u64 0]
        have m0 := hN.cell (j := 0) rfl
        have m1 := hN.cell (j := 1) rfl
        have m2 := hN.cell (j := 2) rfl
        have mf0 := hN.free 0
        have mf1 := hN.free 1
        have mf2 := hN.free 2
        have HZ1 := (HZ.out.drewN n).alloc (.cells #[.int .i64 0, .int .i64 0, .int .u64 0] 49)
        have zz0 := HZ1.cell (j := 0) rfl
        have zz1 := HZ1.cell (j := 1) rfl
        have zzf0 := HZ1.free 0
        have zzf1 := HZ1.free 1
        have a1' := (((HB1.out.drewN n).alloc (.cells #[.int .i64 0, .int .i64 0, .int .u64 0] 49))).cell (j := 3) rfl
        have r0' := ((((Upd.refl [] W0).drewN n).alloc (.cells #[.int .i64 0, .int .i64 0, .int .u64 0] 49))).cell r0 (by simp)
        have d3 : ¬ (L.b = W0.heap.size) := by have := HB1.out.lt; omega
        have d4 : ¬ (W0.heap.size = L.b) := by have := HB1.out.lt; omega
        have d5 : ¬ (L.i = W0.heap.size) := by have := HI1.out.lt; omega
        have d6 : ¬ (W0.heap.size = L.i) := by have := HI1.out.lt; omega
        have d1 : ¬ (w.heap.size = W0.heap.size) := by have := HLT.out; omega
        have d2 : ¬ (W0.heap.size = w.heap.size) := by have := HLT.out; omega
        clear hN HZ1 z0 z1 zf0 zf1
        go_wp2
        have hy := ((((((HZ.out.drewN n).alloc (.cells #[.int .i64 0, .int .i64 0, .int .u64 0] 49)).setNe (p := ⟨W0.heap.size, 0, none⟩) d1 (.int .i64 t')).setNe (p := ⟨W0.heap.size, 1, none⟩) d1 (.int .i64 (wh v'))).setNe (p := ⟨W0.heap.size, 2, none⟩) d1 (.int .u64 (wl v'))).set 0 (.int .i64 (wh v'))).set 1 (.int .u64 (wl v'))
        have y0 := hy.cell (j := 0) rfl
        have y1 := hy.cell (j := 1) rfl
        refine bodyPost_ret (v := .tuple #[.agg #[.int .i64 (wh v'), .int .u64 (wl v')], .bool true]) ?_ rfl ⟨rfl, ?_⟩
        · simp [results, Try.f47, go_sem, y0, y1]
        · have hlt := HLT.out
          repeat (first | with_reducible exact hU0.out | with_reducible refine Upd.alloc ?_ _ | with_reducible refine Upd.drewN ?_ _ | (with_reducible refine Upd.setCell ?_ (.inr ?h) _; case h => (dsimp only; omega)))
      · have e0 : b.known t = none := by unfold Band.known; rw [if_neg h0, ← hk, HX.out]; simp only; rw [if_neg ht']
        rw [e0]
        have et : (t' != t) = true := by simpa using ht'
        have q0 : W0.cell? ⟨L.l, k * 3, none⟩ = some (.int .i64 t') := hB0.pt (j := 0) hx rfl
        have q1 : W0.cell? ⟨L.l, k * 3 + 1, none⟩ = some (.int .i64 (wh v')) := hB0.pt (j := 1) hx rfl
        have q2 : W0.cell? ⟨L.l, k * 3 + 2, none⟩ = some (.int .u64 (wl v')) := hB0.pt (j := 2) hx rfl
        have HK := Lib.hid hk
        clear hz hB hB0 hk hp hx hs hn hn2 ht hnlt
        go_enter Try.func47, Try.ntmps47
        go_wp2_with fail
        rw [← hW0]
        refine (hPC.out _ hU0.out).mono ?_
        rintro e w1 ⟨rfl, n, rfl⟩
        clear hW0
        have hN : HB ((W0.drewN n).alloc (.cells #[.int .i64 0, .int .i64 0, .int .u64 0] 49)) W0.heap.size 49 [.int .i64 0, .int .i64 0, .int .u64 0] := HB.new (W0.drewN n) _ [.int .i64 0, .int .i64 0, .int .u64 0]
        have m0 := hN.cell (j := 0) rfl
        have m1 := hN.cell (j := 1) rfl
        have m2 := hN.cell (j := 2) rfl
        have mf0 := hN.free 0
        have mf1 := hN.free 1
        have mf2 := hN.free 2
        have HZ1 := (HZ.out.drewN n).alloc (.cells #[.int .i64 0, .int .i64 0, .int .u64 0] 49)
        have zz0 := HZ1.cell (j := 0) rfl
        have zz1 := HZ1.cell (j := 1) rfl
        have zzf0 := HZ1.free 0
        have zzf1 := HZ1.free 1
        have a1' := (((HB1.out.drewN n).alloc (.cells #[.int .i64 0, .int .i64 0, .int .u64 0] 49))).cell (j := 3) rfl
        have r0' := ((((Upd.refl [] W0).drewN n).alloc (.cells #[.int .i64 0, .int .i64 0, .int .u64 0] 49))).cell r0 (by simp)
        have d3 : ¬ (L.b = W0.heap.size) := by have := HB1.out.lt; omega
        have d4 : ¬ (W0.heap.size = L.b) := by have := HB1.out.lt; omega
        have d5 : ¬ (L.i = W0.heap.size) := by have := HI1.out.lt; omega
        have d6 : ¬ (W0.heap.size = L.i) := by have := HI1.out.lt; omega
        have d1 : ¬ (w.heap.size = W0.heap.size) := by have := HLT.out; omega
        have d2 : ¬ (W0.heap.size = w.heap.size) := by have := HLT.out; omega
        clear hN HZ1 z0 z1 zf0 zf1
        go_wp2
        have hy := ((((((HZ.out.drewN n).alloc (.cells #[.int .i64 0, .int .i64 0, .int .u64 0] 49)).setNe (p := ⟨W0.heap.size, 0, none⟩) d1 (.int .i64 t')).setNe (p := ⟨W0.heap.size, 1, none⟩) d1 (.int .i64 (wh v'))).setNe (p := ⟨W0.heap.size, 2, none⟩) d1 (.int .u64 (wl v'))).set 0 (.int .i64 0)).set 1 (.int .u64 0)
        have y0 := hy.cell (j := 0) rfl
        have y1 := hy.cell (j := 1) rfl
        refine bodyPost_ret (v := .tuple #[.agg #[.int .i64 0, .int .u64 0], .bool false]) ?_ rfl ⟨rfl, ?_⟩
        · simp [results, Try.f47, go_sem, y0, y1]
        · have hlt := HLT.out
          repeat (first | with_reducible exact hU0.out | with_reducible refine Upd.alloc ?_ _ | with_reducible refine Upd.drewN ?_ _ | (with_reducible refine Upd.setCell ?_ (.inr ?h) _; case h => (dsimp only; omega)))
end Go.Proofs.Ytdjpcinibgbglaa
namespace Go.Proofs.Ytdjpcinibgbglaa
open Go.RowKit Go.Sort
set_option maxHeartbeats 1000000 in
theorem clos_calls (L : Loc) (b : Band) (q : Nat) (d : Int) (w : World) (hB : BandAt w L b) (hs : okSpc b.spc = true) (hq : w.cell? ⟨q, 0, none⟩ = some (.int .i64 d)) :
    Calls Try.prog 74 #[pB L.b, .pointer (some ⟨q, 0, none⟩)] w fun e w' => e = .returned (.bool (decide (d ≤ reachS b.spc))) ∧ Upd [] w w' := by
  have x0 := fun D os => rg_cell (hB.hb.cell (j := 0) rfl) D os
  have x1 := fun D os => rg_cell (hB.hb.cell (j := 1) rfl) D os
  have x2 := fun D os => rg_cell hq D os
  have hI : I64 (b.step * (b.n : Int)) := by have := reach_le hs; unfold reachS Band.spc at this; unfold I64; simp only at this; omega
  unfold reachS Band.spc
  dsimp only
  clear hB hq hs
  go_enter Try.func74, Try.ntmps74
  go_wp2_with fail
  refine wp_region_quiet_below (by kernel_rfl) (by kernel_rfl) ?_
  repeat (go_big_quiet_step ((go_at_call 43; exact rg_of (reach_calls _ _ (by assumption) _))))
  refine wpQuiet_nil ?_
  rintro _ ⟨⟨dq, osq⟩, rfl⟩
  go_wp2
  go_ret
  exact ⟨rfl, rg_upd _ _ _⟩
set_option maxHeartbeats 1000000 in
theorem index_calls (F : Nat → Prop) (v : Value) (Ls : List Loc) (bs : List Band) (q : Nat) (d : Int) (w : World) (hr : RowK w F (fun L => [pB L.b]) 1 v Ls) (hl : Ls.length = bs.length)
    (hB : ∀ (k : Nat) (L : Loc) (b : Band), Ls[k]? = some L → bs[k]? = some b → BandAt w L b) (hs : ∀ b ∈ bs, okSpc b.spc = true) (hq : w.cell? ⟨q, 0, none⟩ = some (.int .i64 d)) (k : Nat) (hk : k < bs.length) (hk1 : ∀ b, bs[k]? = some b → d ≤ reachS b.spc) (hk2 : ∀ (j : Nat) (b : Band), j < k → bs[j]? = some b → ¬ d ≤ reachS b.spc) :
    Calls Try.prog 73 #[v, .func (.func 74) #[] #[.pointer (some ⟨q, 0, none⟩)]] w fun e w' => e = .returned (.int .i64 k) ∧ Upd [] w w' := by
  obtain ⟨A, c, rfl, hc1, hc2, hc3⟩ := hr.shape
  have HK1 := Lib.hid hk1
  have HK2 := Lib.hid hk2
  have HR := Lib.hid hr
  have HBB := Lib.hid hB
  have HS := Lib.hid hs
  have HQ := Lib.hid hq
  have HL := Lib.hid hl
  have hkI : (k : Int) < (Ls.length : Int) := by omega
  have hlm : Ls.length ≤ 9223372036854775807 := Nat.le_trans hc1 (Nat.le_trans hc2 (by unfold maxLen; decide))
  clear hk1 hk2 hr hB hs hq hl hc2 hc3
  go_enter Try.func73, Try.ntmps73
  go_wp2
  go_loopw [8] (fun i wr => ∃ j : Nat, j ≤ k ∧ i = .int .i64 (j : Int) ∧ Upd [] w wr) (fun i _ => k + 1 - (intOf i).toNat)
  case atStart => exact ⟨0, Nat.zero_le _, rfl, Upd.refl _ _⟩
  case round =>
    obtain ⟨j, hj, rfl, hU⟩ := hrel
    have HU := Lib.hid hU
    have hjI : (j : Int) < (Ls.length : Int) := by omega
    obtain ⟨L, hx⟩ : ∃ L, Ls[j]? = some L := ⟨Ls[j], List.getElem?_eq_getElem (by omega)⟩
    obtain ⟨b, hb⟩ : ∃ b, bs[j]? = some b := ⟨bs[j], List.getElem?_eq_getElem (by omega)⟩
    obtain ⟨g, o, rfl, _, hcell⟩ := HR.out.at_ hx
    have c0 : wr.cell? ⟨g, o + j, none⟩ = some (pB L.b) := hU.cell (by simpa using hcell 0 _ rfl) (by simp)
    have HC := Lib.hid (fun W (hW : Upd [] w W) => clos_calls L b q d W ((HBB.out j L b hx hb).upd0 hW) (HS.out b (List.mem_of_getElem? hb)) (hW.cell HQ.out (by simp)))
    have HX := Lib.hid hx
    have HBX := Lib.hid hb
    clear hx hb hcell hU
    by_cases hjk : j = k
    · have ht : decide (d ≤ reachS b.spc) = true := decide_eq_true (HK1.out b (hjk ▸ HBX.out))
      rw [ht] at HC
      clear ht
      subst hjk
      go_wp2_with fail
      refine (HC.out _ HU.out).mono ?_
      rintro e w1 ⟨rfl, hU1⟩
      go_wp2
      go_ret
      exact ⟨rfl, HU.out.then hU1⟩
    · have ht : decide (d ≤ reachS b.spc) = false := decide_eq_false (by have := HK2.out j b (by omega) HBX.out; omega)
      rw [ht] at HC
      clear ht
      go_wp2_with fail
      refine (HC.out _ HU.out).mono ?_
      rintro e w1 ⟨rfl, hU1⟩
      go_wp2
      exact ⟨⟨j + 1, by omega, rfl, HU.out.then hU1⟩, by show k + 1 - ((j : Int) + 1).toNat < k + 1 - (j : Int).toNat; omega⟩
set_option maxHeartbeats 1000000 in
theorem reaches_calls (base fb : Nat) (f : Fl) (v : Value) (Ls : List Loc) (d : Int) (w : World) (hf : FileAt w base fb f v Ls) (hok : f.ok) (k : Nat) (hk : k < f.bands.length) (hk1 : ∀ b, f.bands[k]? = some b → d ≤ reachS b.spc) (hk2 : ∀ (j : Nat) (b : Band), j < k → f.bands[j]? = some b → ¬ d ≤ reachS b.spc) :
    Calls Try.prog 44 #[.pointer (some ⟨fb, 0, none⟩), .int .i64 d] w fun e w' => e = .returned (.int .i64 k) ∧ Upd [] w w' := by
  have hU0 := (Upd.refl [] w).alloc (.cells #[.int .i64 d] 2)
  have hF0 := hf.upd0 hU0
  have hq := (HB.new w 2 [.int .i64 d]).cell (j := 0) rfl
  have HI := Lib.hid (index_calls _ v Ls f.bands w.heap.size d _ hF0.row hf.len hF0.band (fun b hb => (hok.bands b hb).spc) hq k hk hk1 hk2)
  have y0 := hF0.hf.cell (j := 2) rfl
  clear hf hF0 hq hk1 hk2
  go_enter Try.func44, Try.ntmps44
  go_wp2_with fail
  refine HI.out.mono ?_
  rintro e w1 ⟨rfl, hU1⟩
  go_wp2
  go_ret
  exact ⟨rfl, hU0.then hU1⟩
set_option maxHeartbeats 1000000 in
theorem made_calls (base fb : Nat) (f : Fl) (v : Value) (Ls : List Loc) (w : World) (hf : FileAt w base fb f v Ls) (hne : f.bands ≠ []) :
    Calls Try.prog 35 #[.pointer (some ⟨fb, 0, none⟩)] w fun e w' => e = .returned (.bool true) ∧ Upd [] w w' := by
  obtain ⟨A, c, rfl, hc1, hc2, hc3⟩ := hf.row.shape
  have y0 := hf.hf.cell (j := 2) rfl
  have hpos : 0 < Ls.length := by rw [hf.len]; exact List.length_pos_iff.2 hne
  have hd : decide (0 < (Ls.length : Int)) = true := decide_eq_true (by omega)
  clear hf hc3 hc2 hc1
  go_enter Try.func35, Try.ntmps35
  go_wp2
  go_ret
  exact ⟨rfl, Upd.refl _ _⟩
theorem made_nil (w : World) : Calls Try.prog 35 #[.pointer none] w fun e w' => e = .returned (.bool false) ∧ Upd [] w w' := by
  go_enter Try.func35, Try.ntmps35
  go_wp2
  go_ret
  exact ⟨rfl, Upd.refl _ _⟩
end Go.Proofs.Ytdjpcinibgbglaa
