/- How a band, how a file lies in memory. -/
import Derived.Test.YtdjpcinibgbglaaFn
set_option linter.unusedVariables false
set_option linter.unusedSimpArgs false
namespace Go.Proofs.Ytdjpcinibgbglaa
open Go.RowKit

structure Loc where
  b : Nat
  l : Nat
  i : Nat
def ptC : Option Pt → List Value
  | none => [.int .i64 0, .int .i64 0, .int .u64 0]
  | some p => [.int .i64 p.t, .int .i64 (wh p.v), .int .u64 (wl p.v)]
def flC (o : Option Pt) : List Value := [.bool o.isSome]
theorem ptC_len (x : Option Pt) : (ptC x).length = 3 := by cases x <;> rfl
theorem flC_len (x : Option Pt) : (flC x).length = 1 := rfl
structure BandAt (w : World) (L : Loc) (b : Band) : Prop where
  hb : HB w L.b 107 (bandC b L.l L.i)
  hl : HB w L.l 49 (b.pl.flatMap ptC)
  hi : HB w L.i 4 (b.pl.flatMap flC)
theorem BandAt.upd {S : List Nat} {w w' : World} {L : Loc} {b : Band} (h : BandAt w L b) (hU : Upd S w w') (h1 : L.b ∉ S) (h2 : L.l ∉ S) (h3 : L.i ∉ S) : BandAt w' L b :=
  ⟨h.hb.upd hU h1, h.hl.upd hU h2, h.hi.upd hU h3⟩
theorem BandAt.upd0 {w w' : World} {L : Loc} {b : Band} (h : BandAt w L b) (hU : Upd [] w w') : BandAt w' L b := h.upd hU (by simp) (by simp) (by simp)
/-- Place k, cell by cell. -/
theorem BandAt.pt {w : World} {L : Loc} {b : Band} (h : BandAt w L b) {k : Nat} {x : Option Pt} (hx : b.pl[k]? = some x) {j : Nat} {u : Value} (hj : (ptC x)[j]? = some u) : w.cell? ⟨L.l, k * 3 + j, none⟩ = some u :=
  h.hl.cell (flatMap_get ptC ptC_len _ k x hx j u hj)
theorem BandAt.fl {w : World} {L : Loc} {b : Band} (h : BandAt w L b) {k : Nat} {x : Option Pt} (hx : b.pl[k]? = some x) : w.cell? ⟨L.i, k, none⟩ = some (.bool x.isSome) := by
  have := h.hi.cell (flatMap_get flC flC_len _ k x hx 0 _ rfl)
  simpa using this
structure Band.ok (b : Band) : Prop where
  spc : okSpc b.spc = true
  pts : ∀ (k : Nat) (p : Pt), b.pl[k]? = some (some p) → 0 ≤ p.t ∧ p.t ≤ 1099511627775 ∧ p.t % b.step = 0 ∧ b.place p.t = k ∧ (p.v.natAbs : Int) ≤ 1208925819614629174706176 * b.step
theorem Band.ok.b {b : Band} (h : b.ok) : 1 ≤ b.step ∧ b.step ≤ 1099511627775 ∧ 1 ≤ b.n ∧ b.n ≤ 4096 ∧ 1 ≤ reachS b.spc ∧ reachS b.spc ≤ 1099511627775 := by
  have h1 := okSpc_iff.1 h.spc
  have h2 := reach_le h.spc
  simp only [Band.spc] at *
  omega
theorem Band.ok.big {b : Band} (h : b.ok) {k : Nat} {p : Pt} (hp : b.pl[k]? = some (some p)) : I128 p.v := by
  have h1 := (h.pts k p hp).2.2.2.2
  have h2 := h.b
  unfold I128
  omega
def muts (Ls : List Loc) : List Nat := Ls.flatMap fun L => [L.l, L.i]
/-- The number of the function of a method. -/
def rollF (m : Int) : Nat := if m = 1 then 66 else if m = 2 then 67 else if m = 3 then 68 else if m = 4 then 69 else 70
abbrev rollV (m : Int) : Value := .func (.func (rollF m)) #[] #[]
structure FileAt (w : World) (base : Nat) (fb : Nat) (f : Fl) (v : Value) (Ls : List Loc) : Prop where
  hf : HB w fb 77 [.int .i64 f.m, .int .i64 f.xff, v, rollV f.m]
  row : RowK w (fun b => v.ownBlock = some b) (fun L => [pB L.b]) 1 v Ls
  len : Ls.length = f.bands.length
  band : ∀ (k : Nat) (L : Loc) (b : Band), Ls[k]? = some L → f.bands[k]? = some b → BandAt w L b
  nodup : (muts Ls).Nodup
  own : ∀ g, v.ownBlock = some g → g ∉ muts Ls
  up : ∀ x ∈ muts Ls, base ≤ x
theorem mem_muts {Ls : List Loc} {k : Nat} {L : Loc} (h : Ls[k]? = some L) : L.l ∈ muts Ls ∧ L.i ∈ muts Ls := by
  have hm := List.mem_of_getElem? h
  unfold muts
  simp only [List.mem_flatMap]
  exact ⟨⟨L, hm, by simp⟩, ⟨L, hm, by simp⟩⟩
theorem FileAt.upd0 {w w' : World} {base fb : Nat} {f : Fl} {v : Value} {Ls : List Loc} (h : FileAt w base fb f v Ls) (hU : Upd [] w w') : FileAt w' base fb f v Ls :=
  ⟨h.hf.upd hU (by simp), h.row.upd0 hU, h.len, fun k L b h1 h2 => (h.band k L b h1 h2).upd0 hU, h.nodup, h.own, h.up⟩
structure Fl.ok (f : Fl) : Prop where
  m : 1 ≤ f.m ∧ f.m ≤ 5
  x : 0 ≤ f.xff ∧ f.xff ≤ 1000000
  ne : f.bands ≠ []
  le : f.bands.length ≤ 8
  bands : ∀ b ∈ f.bands, b.ok
  pairs : ∀ (k : Nat) (a b : Band), f.bands[k]? = some a → f.bands[k + 1]? = some b → okPair a.spc b.spc = true
/-- The bands' blocks. -/
theorem FileAt.mem {w : World} {base fb : Nat} {f : Fl} {v : Value} {Ls : List Loc} (h : FileAt w base fb f v Ls) {x : Nat} (hx : x ∈ muts Ls) : ∃ (k : Nat) (L : Loc) (b : Band), Ls[k]? = some L ∧ f.bands[k]? = some b ∧ (x = L.l ∨ x = L.i) := by
  unfold muts at hx
  simp only [List.mem_flatMap] at hx
  obtain ⟨L, hL, hx⟩ := hx
  obtain ⟨k, hk, e⟩ := List.mem_iff_getElem.1 hL
  have hk2 : k < f.bands.length := by have := h.len; omega
  refine ⟨k, L, f.bands[k], by rw [List.getElem?_eq_getElem hk, e], List.getElem?_eq_getElem hk2, by simpa using hx⟩
theorem FileAt.hb_ne {w : World} {base fb : Nat} {f : Fl} {v : Value} {Ls : List Loc} (h : FileAt w base fb f v Ls) {x : Nat} {T : TypeId} {c : List Value} (hx : HB w x T c) (h1 : T ≠ 49) (h2 : T ≠ 4) : x ∉ muts Ls := by
  intro hm
  obtain ⟨k, L, b, hL, hb, e | e⟩ := h.mem hm
  · subst e; exact (hx.ne (h.band k L b hL hb).hl h1) rfl
  · subst e; exact (hx.ne (h.band k L b hL hb).hi h2) rfl
end Go.Proofs.Ytdjpcinibgbglaa
