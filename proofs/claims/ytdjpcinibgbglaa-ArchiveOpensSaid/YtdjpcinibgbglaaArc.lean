/- The archives, as plain data: what may be, bands and their places, what an update does. -/
import Derived.Test.YtdjpcinibgbglaaWide
set_option linter.unusedVariables false
set_option linter.unusedSimpArgs false
namespace Go.Proofs.Ytdjpcinibgbglaa

abbrev Spc := Int × Int
def okSpc (s : Spc) : Bool := decide (1 ≤ s.1) && decide (s.1 ≤ 1099511627775) && decide (1 ≤ s.2) && decide (s.2 ≤ 4096) && decide (s.1 ≤ 1099511627775 / s.2)
def reachS (s : Spc) : Int := s.1 * s.2
def okPair (a s : Spc) : Bool := decide (s.1 % a.1 = 0) && decide (a.1 < s.1) && decide (reachS a < reachS s) && decide (s.1 / a.1 ≤ a.2)
def fitsS (s : Spc) : Option Spc → Bool
  | none => okSpc s
  | some a => okSpc s && okPair a s
def chk : Nat → Option Spc → List Spc → Int × Int
  | _, _, [] => (0, 0)
  | i, p, s :: l => if i = 8 ∨ fitsS s p = false then ((i : Int), 190) else chk (i + 1) (some s) l
def check (l : List Spc) : Int × Int := if l = [] then (0, 190) else chk 0 none l

theorem okSpc_iff {s : Spc} : okSpc s = true ↔ 1 ≤ s.1 ∧ s.1 ≤ 1099511627775 ∧ 1 ≤ s.2 ∧ s.2 ≤ 4096 ∧ s.1 ≤ 1099511627775 / s.2 := by
  simp [okSpc, and_assoc]
theorem reach_le {s : Spc} (h : okSpc s = true) : 1 ≤ reachS s ∧ reachS s ≤ 1099511627775 := by
  obtain ⟨h1, h2, h3, h4, h5⟩ := okSpc_iff.1 h
  unfold reachS
  have h6 : s.1 * s.2 ≤ 1099511627775 / s.2 * s.2 := Int.mul_le_mul_of_nonneg_right h5 (by omega)
  have h7 : 1099511627775 / s.2 * s.2 ≤ 1099511627775 := Int.ediv_mul_le _ (by omega)
  have h8 : 1 * 1 ≤ s.1 * s.2 := Int.mul_le_mul h1 h3 (by omega) (by omega)
  omega

structure Pt where
  t : Int
  v : Int
deriving DecidableEq
structure Band where
  step : Int
  pl : List (Option Pt)
def Band.n (b : Band) : Nat := b.pl.length
def Band.spc (b : Band) : Spc := (b.step, (b.n : Int))
def Band.place (b : Band) (t : Int) : Nat := (t / b.step % (b.n : Int)).toNat
def Band.put (b : Band) (t v : Int) : Band := { b with pl := b.pl.set (b.place t) (some ⟨t - t % b.step, v⟩) }
def Band.known (b : Band) (t : Int) : Option Int :=
  if t < 0 then none else
  match b.pl[b.place t]? with
  | some (some p) => if p.t = t then some p.v else none
  | _ => none
def Band.pts (b : Band) : List Pt := (b.pl.filterMap id).mergeSort (fun p q => decide (p.t ≤ q.t))
structure Fl where
  m : Int
  xff : Int
  bands : List Band
def rolledM (m : Int) (l : List Int) : Int :=
  if m = 1 then l.sum.tdiv l.length else if m = 2 then l.sum else if m = 3 then l.getLastD 0
  else if m = 4 then l.foldl max (l.headD 0) else l.foldl min (l.headD 0)
def knowns (fine : Band) (frm : Int) (n : Nat) : List Int := (List.range n).filterMap fun (k : Nat) => fine.known (frm + (k : Int) * fine.step)
def rollB (m xff t : Int) : Band → List Band → List Band
  | _, [] => []
  | fine, c :: cs =>
    let ks := knowns fine (t - t % c.step) (c.step / fine.step).toNat
    if ks = [] ∨ (ks.length : Int) * 1000000 < xff * (c.step / fine.step) then c :: cs
    else
      let c' := c.put (t - t % c.step) (rolledM m ks)
      c' :: rollB m xff t c' cs
def upB (m xff t v d : Int) : List Band → List Band
  | [] => []
  | b :: l => if d ≤ reachS b.spc then b.put t v :: rollB m xff t (b.put t v) l else b :: upB m xff t v d l
def Fl.last (f : Fl) : Int := ((f.bands.getLast?).map fun b => reachS b.spc).getD 0
def sec (t : Int) : Bool := decide (0 ≤ t) && decide (t ≤ 1099511627775)
def fitV (v s : Int) : Bool := decide ((v.natAbs : Int) ≤ 1208925819614629174706176 * s)
def Fl.update (f : Fl) (t v now : Int) : Fl × Int :=
  if sec t = false ∨ sec now = false ∨ fitV v 1 = false then (f, 1)
  else if now < t ∨ f.last ≤ now - t then (f, 193)
  else ({ f with bands := upB f.m f.xff t v (now - t) f.bands }, 0)
end Go.Proofs.Ytdjpcinibgbglaa
