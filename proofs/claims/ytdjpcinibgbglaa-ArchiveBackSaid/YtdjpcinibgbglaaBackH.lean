/- Fetch in one contract; what two files of one content answer. -/
import Derived.Test.YtdjpcinibgbglaaRCre
set_option linter.unusedVariables false
set_option linter.unusedSimpArgs false
namespace Go.Proofs.Ytdjpcinibgbglaa
open Go.RowKit Go.Sort
def fetchP (f : Fl) (frm til now : Int) : Option Ser × Int :=
  if sec frm = false ∨ sec til = false ∨ sec now = false then (none, 1)
  else if til < frm then (none, 194)
  else if now < frm ∨ til < now - f.last then (none, 0)
  else match f.bands.find? (fun b => decide (now - max frm (now - f.last) ≤ reachS b.spc)) with
    | some b => (some (serB b (max frm (now - f.last)) (min til now)), 0)
    | none => (none, 0)
theorem fetch_all (base fb : Nat) (f : Fl) (v : Value) (Ls : List Loc) (frm til now : Int) (w : World) (hf : FileAt w base fb f v Ls) (hok : f.ok) :
    Calls Try.prog 24 #[.pointer (some ⟨fb, 0, none⟩), .int .i64 frm, .int .i64 til, .int .i64 now] w fun e w' => ∃ val, e = .returned (.tuple #[val, .int .i64 (fetchP f frm til now).2]) ∧ SerAt w' w.heap.size (fetchP f frm til now).1 val ∧ Upd [] w w' := by
  unfold fetchP
  split
  · rename_i h
    exact (fetch_no1 base fb f v Ls frm til now w hf hok h).mono fun e w' h => ⟨_, h.1, rfl, h.2⟩
  · rename_i h
    simp only [not_or, Bool.not_eq_false] at h
    obtain ⟨h1, h2, h3⟩ := h
    split
    · rename_i h
      exact (fetch_no2 base fb f v Ls frm til now w hf hok h1 h2 h3 h).mono fun e w' h => ⟨_, h.1, rfl, h.2⟩
    · rename_i h4
      split
      · rename_i h
        exact (fetch_no3 base fb f v Ls frm til now w hf hok h1 h2 h3 (by omega) h).mono fun e w' h => ⟨_, h.1, rfl, h.2⟩
      · rename_i h
        simp only [not_or, Int.not_lt] at h
        split
        · rename_i b hb
          exact (fetch_some base fb f v Ls frm til now w hf hok h1 h2 h3 (by omega) h.1 h.2 b hb).mono fun e w' h => h
        · rename_i hn
          exfalso
          rw [List.find?_eq_none] at hn
          have hne := hok.ne
          have := hn (f.bands.getLast hne) (List.getLast_mem hne)
          have hl : f.last = reachS (f.bands.getLast hne).spc := by
            unfold Fl.last
            rw [List.getLast?_eq_some_getLast hne]
            rfl
          simp at this
          rw [hl] at this h
          omega
def serF : Option Ser → Int | none => 0 | some s => s.1
def serT : Option Ser → Int | none => 0 | some s => s.2.1
def serL : Option Ser → List (Option Int) | none => [] | some s => s.2.2
theorem ser_shape {w : World} {base : Nat} {so : Option Ser} {val : Value} (h : SerAt w base so val) : ∃ sl, val = .agg #[.string .empty, .int .i64 (serF so), .int .i64 (serT so), sl] ∧ RowK w (base ≤ ·) ceC 3 sl (serL so) := by
  cases so with
  | none => exact ⟨_, h, RowK.nil _ _ _ _⟩
  | some s =>
    obtain ⟨sl, h1, h2⟩ := h
    exact ⟨sl, h1, (own_row (enc := ceC) (fun x => by cases x <;> rfl) (by decide) h2).2⟩
/-- Blocks that were not there when the file was made may turn. -/
theorem FileAt.upd_hi {S : List Nat} {w0 w w' : World} {base fb : Nat} {f0 f : Fl} {v : Value} {Ls : List Loc} (h0 : FileAt w0 base fb f0 v Ls) (h : FileAt w base fb f v Ls) (hne : f0.bands ≠ []) (hU : Upd S w w') (hS : ∀ x ∈ S, w0.heap.size ≤ x) : FileAt w' base fb f v Ls := by
  have hlt : ∀ x, x < w0.heap.size → x ∉ S := fun x hx hm => by have := hS x hm; omega
  have hk0 : ∀ (k : Nat) (L : Loc), Ls[k]? = some L → k < f0.bands.length := fun k L hL => by have := (List.getElem?_eq_some_iff.1 hL).1; have := h0.len; omega
  refine ⟨h.hf.upd hU (hlt _ h0.hf.lt), h.row.upd hU (fun y hy e => ?_), h.len, ?_, h.nodup, h.own, h.up, h.low⟩
  · obtain ⟨L, hL⟩ : ∃ L, Ls[0]? = some L := ⟨_, List.getElem?_eq_getElem (by have := h0.len; have := List.length_pos_iff.2 hne; omega)⟩
    obtain ⟨A, c, hv, -⟩ := h0.row.shape
    have hrow := h0.row
    rw [hv] at hrow
    obtain ⟨b, o, hA, hb, hc⟩ := hrow.at1 hL
    rw [← hv, e] at hb
    injection hb with hb
    subst hb
    exact hlt _ (World.block_lt_of_cell? _ _ hc) hy
  · intro k L b hL hb
    have hB0 := h0.band k L _ hL (List.getElem?_eq_getElem (hk0 k L hL))
    exact (h.band k L b hL hb).upd hU (hlt _ hB0.hb.lt) (hlt _ hB0.hl.lt) (hlt _ hB0.hi.lt)
theorem FileAt.muts_lt {w : World} {base fb : Nat} {f : Fl} {v : Value} {Ls : List Loc} (h : FileAt w base fb f v Ls) : ∀ x ∈ muts Ls, x < w.heap.size := by
  intro x hx
  obtain ⟨k, L, b, hL, hb, e | e⟩ := h.mem hx
  · subst e; exact (h.band k L b hL hb).hl.lt
  · subst e; exact (h.band k L b hL hb).hi.lt
end Go.Proofs.Ytdjpcinibgbglaa
