/- A region that draws its order, whose operations read and whose callees only grow the world: one walk ('wp_region_quiet_below'), with contracts that end in 'Upd []'. -/
import Derived.Test.YtdjpcinibgbglaaBase
import Derived.Lib.QuietBelow
set_option linter.unusedVariables false
set_option linter.unusedSimpArgs false
namespace Go.Proofs.Ytdjpcinibgbglaa
open Go.RowKit Go.Sort

theorem rg_upd (w : World) (d : Nat) (os : Array Obj) : Upd [] w (grow (redrawn w d) os) := Upd.of_below (below_regrown w d os)
theorem rg_cell {w : World} {a : Addr} {v : Value} (h : w.cell? a = some v) (d : Nat) (os : Array Obj) : (grow (redrawn w d) os).cell? a = some v := cell_regrown h d os
/-- A contract that ends in 'Upd []', met in a world of the class. -/
theorem rg_of {P : Program} {f : FuncId} {args : Array Value} {w : World} {d : Nat} {os : Array Obj} {v : Value}
    (h : Calls P f args (grow (redrawn w d) os) fun e w' => e = .returned v ∧ Upd [] (grow (redrawn w d) os) w') : Calls P f args (grow (redrawn w d) os) fun e w'' => e = .returned v ∧ ∃ p : Regrown, w'' = grow (redrawn w p.d) p.os :=
  Calls.regrown_of (h.mono fun _ _ ⟨he, hu⟩ => ⟨he, hu.below⟩)
end Go.Proofs.Ytdjpcinibgbglaa
