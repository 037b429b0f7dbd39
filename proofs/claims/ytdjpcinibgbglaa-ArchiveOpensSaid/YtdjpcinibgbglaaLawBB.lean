/- The law ArchiveChecks. What the archive's laws read: a script of calls as rows of cells. -/
import Derived.Test.YtdjpcinibgbglaaAlive
import Derived.Test.YtdjpcinibgbglaaRCheck
import Derived.Test.YtdjpcinibgbglaaRd
import Derived.Test.YtdjpcinibgbglaaMade
set_option linter.unusedVariables false
set_option linter.unusedSimpArgs false
namespace Go.Proofs.Ytdjpcinibgbglaa
open Go.RowKit Go.Sort
abbrev gI : GT := .int .i64
abbrev gSpec : GT := .struct (.cons gI (.cons gI .nil))
def toSpc (x : gSpec.den) : Spc := (x.1, x.2.1)
theorem wf_I64 {x : Int} (h : (Lit.int .i64 x).wf = true) : I64 x := by
  simp [Lit.wf, IntKind.min, IntKind.max, IntKind.bits, IntKind.signed] at h
  unfold I64
  omega
theorem spec_row {W : World} {F : Nat → Prop} {cs : List Value} {xs : List gSpec.den} (h : Rd W F (.slice gSpec) cs xs) : ∃ v, cs = [v] ∧ RowK W F spcC 2 v (xs.map toSpc) ∧ ∀ s ∈ xs.map toSpc, I64S s := by
  obtain ⟨A, c, rfl, h1, h2, h3, h4⟩ := h
  have key : ∀ (i : Nat) (x : gSpec.den), xs[i]? = some x → I64S (toSpc x) ∧ ∃ b o, A = some ⟨b, o, none⟩ ∧ F b ∧ ∀ j u, (spcC (toSpc x))[j]? = some u → W.cell? ⟨b, o + i * 2 + j, none⟩ = some u := by
    intro i x hx
    obtain ⟨b, o, ecs, r1, r2, r3, r4, r5⟩ := h4 i x hx
    obtain ⟨c1, c2, rfl, ⟨rfl, w1⟩, c3, c4, rfl, ⟨rfl, w2⟩, rfl⟩ := r5
    exact ⟨⟨wf_I64 w1, wf_I64 w2⟩, b, o, r1, r2, r4⟩
  refine ⟨_, rfl, ⟨A, c, by simp, by simpa using h1, h2, h3, fun i s hs => ?_⟩, fun s hs => ?_⟩
  · rw [List.getElem?_map, Option.map_eq_some_iff] at hs
    obtain ⟨x, hx, rfl⟩ := hs
    exact (key i x hx).2
  · obtain ⟨x, hx, rfl⟩ := List.mem_map.1 hs
    obtain ⟨i, hi, e⟩ := List.mem_iff_getElem.1 hx
    exact (key i x (by rw [List.getElem?_eq_getElem hi, e])).1
set_option maxHeartbeats 1000000 in
theorem archiveChecks_calls (c0 : List Value) (x0 : GT.den (.slice gSpec)) (W : World) (h0 : Rd W (· < W.heap.size) (.slice gSpec) c0 x0) :
    Calls Try.prog 3 #[GT.val (.slice gSpec) c0] W fun e w' => e = .returned (.bool true) ∧ Upd [] W w' := by
  obtain ⟨v, rfl, hr, hs⟩ := spec_row h0
  show Calls Try.prog 3 #[v] W _
  have HC := Lib.hid (check_calls _ v _ W hr hs)
  have HR := Lib.hid (fun w (hw : Upd [] W w) => rcheck_calls _ v _ w (hr.upd0 hw) hs)
  generalize (check (x0.map toSpc)).1 = a at *
  generalize (check (x0.map toSpc)).2 = b at *
  clear hr hs h0
  go_enter Try.func3, Try.ntmps3
  go_wp2_with fail
  refine HC.out.mono ?_
  rintro e w1 ⟨rfl, hU1⟩
  have HU1 := Lib.hid hU1
  clear hU1
  go_wp2_with fail
  refine (HR.out _ HU1.out).mono ?_
  rintro e w2 ⟨rfl, hU2⟩
  have HU2 := Lib.hid (HU1.out.then hU2)
  clear hU2
  go_wp2_with fail
  refine (alive_calls _).mono ?_
  rintro e w3 ⟨rfl, hU3⟩
  have HU3 := Lib.hid (HU2.out.then hU3)
  clear hU3
  go_wp2
  go_ret
  exact ⟨rfl, HU3.out⟩
end Go.Proofs.Ytdjpcinibgbglaa
namespace Go.Proofs.Ytdjpcinibgbglaa
open Go.RowKit Go.Sort
abbrev gWide : GT := .struct (.cons gI (.cons (.int .u64) .nil))
abbrev gPoint : GT := .struct (.cons gI (.cons gWide .nil))
abbrev gOp : GT := .struct (.cons gI (.cons gPoint (.cons gI (.cons gI (.cons gI (.cons gI .nil))))))
def toPt (x : gPoint.den) : Pt := ⟨x.1, x.2.1.1 * 18446744073709551616 + x.2.1.2.1⟩
def toOp (x : gOp.den) : Opn := ⟨x.1, x.2.1.1, x.2.1.2.1.1 * 18446744073709551616 + x.2.1.2.1.2.1, x.2.2.1, x.2.2.2.1, x.2.2.2.2.1, x.2.2.2.2.2.1⟩
theorem wf_U64 {x : Int} (h : (Lit.int .u64 x).wf = true) : U64 x := by
  simp [Lit.wf, IntKind.min, IntKind.max, IntKind.bits, IntKind.signed] at h
  unfold U64
  omega
theorem wideHL {h l : Int} (hh : I64 h) (hl : U64 l) : wh (h * 18446744073709551616 + l) = h ∧ wl (h * 18446744073709551616 + l) = l ∧ I128 (h * 18446744073709551616 + l) := by
  unfold I64 at hh
  unfold U64 at hl
  unfold wh wl I128
  omega
theorem open_point {W : World} {F : Nat → Prop} {cs : List Value} {x : gPoint.den} (h : Rd W F gPoint cs x) : cs = [.int .i64 (toPt x).t, .int .i64 (wh (toPt x).v), .int .u64 (wl (toPt x).v)] ∧ I64 (toPt x).t ∧ I128 (toPt x).v := by
  obtain ⟨_, _, rfl, ⟨rfl, w1⟩, _, _, rfl, ⟨_, _, rfl, ⟨rfl, w2⟩, _, _, rfl, ⟨rfl, w3⟩, rfl⟩, rfl⟩ := h
  have hw := wideHL (wf_I64 w2) (wf_U64 w3)
  refine ⟨?_, wf_I64 w1, hw.2.2⟩
  unfold toPt
  dsimp only
  rw [hw.1, hw.2.1]
  rfl
theorem open_opn {W : World} {F : Nat → Prop} {cs : List Value} {x : gOp.den} (h : Rd W F gOp cs x) : cs = opC (toOp x) ∧ (toOp x).ok := by
  obtain ⟨_, _, rfl, ⟨rfl, w0⟩, _, _, rfl, ⟨_, _, rfl, ⟨rfl, w1⟩, _, _, rfl, ⟨_, _, rfl, ⟨rfl, w2⟩, _, _, rfl, ⟨rfl, w3⟩, rfl⟩, rfl⟩, _, _, rfl, ⟨rfl, w4⟩, _, _, rfl, ⟨rfl, w5⟩, _, _, rfl, ⟨rfl, w6⟩, _, _, rfl, ⟨rfl, w7⟩, rfl⟩ := h
  have hw := wideHL (wf_I64 w2) (wf_U64 w3)
  refine ⟨?_, wf_I64 w0, wf_I64 w1, hw.2.2, wf_I64 w4, wf_I64 w5, wf_I64 w6, wf_I64 w7⟩
  unfold opC toOp
  dsimp only
  rw [hw.1, hw.2.1]
  rfl
theorem op_row {W : World} {F : Nat → Prop} {cs : List Value} {xs : List gOp.den} (h : Rd W F (.slice gOp) cs xs) : ∃ v, cs = [v] ∧ RowK W F opC 8 v (xs.map toOp) ∧ ∀ o ∈ xs.map toOp, o.ok := by
  obtain ⟨A, c, rfl, h1, h2, h3, h4⟩ := h
  have key : ∀ (i : Nat) (x : gOp.den), xs[i]? = some x → (toOp x).ok ∧ ∃ b o, A = some ⟨b, o, none⟩ ∧ F b ∧ ∀ j u, (opC (toOp x))[j]? = some u → W.cell? ⟨b, o + i * 8 + j, none⟩ = some u := by
    intro i x hx
    obtain ⟨b, o, ecs, r1, r2, r3, r4, r5⟩ := h4 i x hx
    obtain ⟨rfl, hk⟩ := open_opn r5
    exact ⟨hk, b, o, r1, r2, r4⟩
  refine ⟨_, rfl, ⟨A, c, by simp, by simpa using h1, h2, h3, fun i s hs => ?_⟩, fun s hs => ?_⟩
  · rw [List.getElem?_map, Option.map_eq_some_iff] at hs
    obtain ⟨x, hx, rfl⟩ := hs
    exact (key i x hx).2
  · obtain ⟨x, hx, rfl⟩ := List.mem_map.1 hs
    obtain ⟨i, hi, e⟩ := List.mem_iff_getElem.1 hx
    exact (key i x (by rw [List.getElem?_eq_getElem hi, e])).1
theorem open_i64 {W : World} {F : Nat → Prop} {cs : List Value} {x : gI.den} (h : Rd W F gI cs x) : cs = [.int .i64 x] ∧ I64 x := by
  obtain ⟨rfl, w⟩ := h
  exact ⟨rfl, wf_I64 w⟩
end Go.Proofs.Ytdjpcinibgbglaa
