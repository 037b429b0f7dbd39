/-
  Words of our own, of no program: which blocks a call may have turned ('Upd'), a block known whole ('HB'), and how these go on over stores, new blocks and draws.
-/
import Derived.WalkKit
import Derived.BigQuiet
import Derived.Deep.QuietTactic
import Derived.KernelRfl
import Derived.Lib.Hide
import Derived.StillTailTactics
namespace Go.Proofs.Ytdjpcinibgbglaa
open Go.RowKit

/-- Of the blocks that stood in w only those of S may have turned; none has gone. -/
structure Upd (S : List Nat) (w w' : World) : Prop where
  os : w'.os = w.os
  tape : w'.tape = w.tape
  output : w'.output = w.output
  size : w.heap.size ≤ w'.heap.size
  block : ∀ k, k < w.heap.size → k ∉ S → w'.heap[k]? = w.heap[k]?

theorem Upd.refl (S : List Nat) (w : World) : Upd S w w := ⟨rfl, rfl, rfl, Nat.le_refl _, fun _ _ _ => rfl⟩
theorem Upd.trans {S T U : List Nat} {a b c : World} (h : Upd S a b) (k : Upd T b c) (hS : ∀ i, i ∈ S → i ∈ U) (hT : ∀ i, i ∈ T → i ∈ U ∨ a.heap.size ≤ i) : Upd U a c :=
  ⟨k.os.trans h.os, k.tape.trans h.tape, k.output.trans h.output, Nat.le_trans h.size k.size, fun i hi hn =>
    (k.block i (Nat.lt_of_lt_of_le hi h.size) (fun hm => (hT i hm).elim hn (fun hge => by omega))).trans (h.block i hi (fun hm => hn (hS i hm)))⟩
theorem Upd.then {S : List Nat} {a b c : World} (h : Upd S a b) (k : Upd S b c) : Upd S a c := h.trans k (fun _ h => h) (fun _ h => .inl h)
theorem Upd.then0 {S : List Nat} {a b c : World} (h : Upd S a b) (k : Upd [] b c) : Upd S a c := h.trans k (fun _ h => h) (fun _ h => by cases h)
theorem Upd.mono {S T : List Nat} {a b : World} (h : Upd S a b) (hS : ∀ i, i ∈ S → i ∈ T ∨ a.heap.size ≤ i) : Upd T a b :=
  ⟨h.os, h.tape, h.output, h.size, fun i hi hn => h.block i hi (fun hm => (hS i hm).elim hn (fun hge => by omega))⟩
theorem Upd.of0 {S : List Nat} {a b : World} (h : Upd [] a b) : Upd S a b := h.mono (fun _ h => by cases h)
theorem Upd.drew {S : List Nat} {a w : World} (h : Upd S a w) : Upd S a w.drew := ⟨h.os, h.tape, h.output, h.size, h.block⟩
theorem Upd.drewN {S : List Nat} {a w : World} (h : Upd S a w) (n : Nat) : Upd S a (w.drewN n) := ⟨h.os, h.tape, h.output, h.size, h.block⟩
theorem Upd.alloc {S : List Nat} {a w : World} (h : Upd S a w) (o : Obj) : Upd S a (w.alloc o) :=
  ⟨h.os, h.tape, h.output, by have := h.size; simp; omega, fun k hk hn => (Below.heap_alloc w o k (Nat.lt_of_lt_of_le hk h.size)).trans (h.block k hk hn)⟩
theorem Upd.setCell {S : List Nat} {a w : World} (h : Upd S a w) {p : Addr} (hp : p.block ∈ S ∨ a.heap.size ≤ p.block) (u : Value) : Upd S a (w.setCell p u) :=
  ⟨h.os, h.tape, h.output, by have := h.size; simpa [World.setCell] using this, fun k hk hn =>
    (Below.heap_setCell w p u k (fun e => by subst e; exact hp.elim hn (fun hge => by omega))).trans (h.block k hk hn)⟩
theorem Upd.of_grownBy {w w' : World} {row : Option Nat} (h : w.grownBy w' row) : Upd row.toList w w' :=
  ⟨h.os, h.tape, h.output, h.size, fun k hk hn => h.block k hk (fun e => hn (by simp [← e]))⟩
theorem Upd.grownBy {w w' : World} {row : Option Nat} (h : Upd row.toList w w') : w.grownBy w' row :=
  ⟨h.os, h.tape, h.output, h.size, fun k hk hn => h.block k hk (fun hm => hn (by simp at hm; exact hm.symm))⟩
theorem Upd.below {w w' : World} (h : Upd [] w w') : Below w.heap.size w w' := ⟨h.os, h.tape, h.output, h.size, fun k hk => h.block k hk (by simp)⟩
theorem Upd.of_below {w w' : World} (h : Below w.heap.size w w') : Upd [] w w' := ⟨h.os, h.tape, h.output, h.size, fun k hk _ => h.block k hk⟩
theorem Upd.of_belowN {w w' : World} {B : Nat} (h : Below B w w') (hB : w.heap.size ≤ B) : Upd [] w w' := ⟨h.os, h.tape, h.output, h.size, fun k hk _ => h.block k (by omega)⟩
theorem Upd.cell {S : List Nat} {w w' : World} (h : Upd S w w') {p : Addr} {v : Value} (hc : w.cell? p = some v) (hn : p.block ∉ S) : w'.cell? p = some v :=
  (World.cell?_of_block (w := w) (h.block p.block (World.block_lt_of_cell? w p hc) hn)).trans hc
theorem Upd.frozen {S : List Nat} {w w' : World} (h : Upd S w w') {p : Addr} (hl : p.block < w.heap.size) (hn : p.block ∉ S) : w'.frozen? p = w.frozen? p :=
  World.frozen?_of_block (w := w) (h.block p.block hl hn)

/-- Block b is a row of these cells, whole, none frozen. -/
def HB (w : World) (b : Nat) (T : TypeId) (c : List Value) : Prop := w.heap[b]? = some (.cells c.toArray T (0, 0))
theorem HB.lt {w : World} {b : Nat} {T : TypeId} {c : List Value} (h : HB w b T c) : b < w.heap.size := lt_of_block h
theorem HB.cell {w : World} {b : Nat} {T : TypeId} {c : List Value} (h : HB w b T c) {j : Nat} {v : Value} (hj : c[j]? = some v) : w.cell? ⟨b, j, none⟩ = some v := by
  unfold HB at h
  simp [World.cell?, h, hj]
theorem HB.free {w : World} {b : Nat} {T : TypeId} {c : List Value} (h : HB w b T c) (j : Nat) : w.frozen? ⟨b, j, none⟩ = false := by
  unfold HB at h
  simp [World.frozen?, h]
theorem HB.upd {S : List Nat} {w w' : World} {b : Nat} {T : TypeId} {c : List Value} (h : HB w b T c) (hU : Upd S w w') (hn : b ∉ S) : HB w' b T c := (hU.block b h.lt hn).trans h
theorem HB.drew {w : World} {b : Nat} {T : TypeId} {c : List Value} (h : HB w b T c) : HB w.drew b T c := h
theorem HB.drewN {w : World} {b : Nat} {T : TypeId} {c : List Value} (h : HB w b T c) (n : Nat) : HB (w.drewN n) b T c := h
theorem HB.alloc {w : World} {b : Nat} {T : TypeId} {c : List Value} (h : HB w b T c) (o : Obj) : HB (w.alloc o) b T c := (Below.heap_alloc w o b h.lt).trans h
theorem HB.new (w : World) (T : TypeId) (c : List Value) : HB (w.alloc (.cells c.toArray T)) w.heap.size T c := heap_alloc_new w _
theorem HB.new1 (w : World) (o : Obj) (T : TypeId) (c : List Value) : HB ((w.alloc o).alloc (.cells c.toArray T)) (w.heap.size + 1) T c := by
  have h := HB.new (w.alloc o) T c
  rwa [show (w.alloc o).heap.size = w.heap.size + 1 by simp] at h
theorem HB.setNe {w : World} {b : Nat} {T : TypeId} {c : List Value} (h : HB w b T c) {p : Addr} (hp : b ≠ p.block) (u : Value) : HB (w.setCell p u) b T c := (Below.heap_setCell w p u b hp).trans h
theorem HB.set {w : World} {b : Nat} {T : TypeId} {c : List Value} (h : HB w b T c) (j : Nat) (u : Value) : HB (w.setCell ⟨b, j, none⟩ u) b T (c.set j u) := by
  have hl := h.lt
  have h' : w.heap[b] = .cells c.toArray T (0, 0) := by simpa [HB, Array.getElem?_eq_getElem hl] using h
  show (w.heap.modify b _)[b]? = _
  rw [Array.getElem?_eq_getElem (by simpa using hl), Array.getElem_modify_self, h']
  simp [List.setIfInBounds_toArray]
theorem HB.ne {w : World} {b b' : Nat} {T T' : TypeId} {c c' : List Value} (h : HB w b T c) (h' : HB w b' T' c') (hT : T ≠ T') : b ≠ b' := by
  intro e
  subst e
  unfold HB at h h'
  rw [h] at h'
  injection h' with h'
  injection h' with _ h'
  exact hT h'
theorem HB.fresh {w : World} {b : Nat} {T : TypeId} {c : List Value} (h : HB w b T c) : b ≠ w.heap.size := Nat.ne_of_lt h.lt

/-- An owned row is kept by whatever does not turn its block. -/
theorem own_upd {S : List Nat} {w w' : World} {base : Nat} {e : TypeId} {size : Nat} {v : Value} {n : Nat} {xs : List Value} (h : w.ownsRow base e size v n xs) (hU : Upd S w w') (hn : ∀ g, v.ownBlock = some g → g ∉ S) : w'.ownsRow base e size v n xs := by
  refine ⟨h.1, ?_⟩
  rcases h.2 with h2 | ⟨g, cap, cur, rfl, hb, hg, r⟩
  · exact .inl h2
  · exact .inr ⟨g, cap, cur, rfl, hb, (hU.block g (lt_of_block hg) (hn g rfl)).trans hg, r⟩
theorem ret_int {k : IntKind} {a b : Int} (h : a = b) : Ending.returned (.int k a) = .returned (.int k b) := by rw [h]
theorem ret_bool {a b : Bool} (h : a = b) : Ending.returned (.bool a) = .returned (.bool b) := by rw [h]
theorem ret_str {a b : ByteArray} (h : a = b) : Ending.returned (.string a) = .returned (.string b) := by rw [h]
/-- A region that draws its order: reads and quiet calls (n operations), then a tail whose order is forced. -/
theorem still_tail {P : Program} {id : Nat} {Q : Exit → Act → World → Prop} {a : Act} {w : World} {l : List Oper} (n : Nat) (hm : P.follows .mixedOrders = true) (hB : Region.lexTailB .any l.toArray n = true)
    (h : wpStill P l.toArray w.drew (fun a' => wpList P l.toArray Q (l.drop n) a' w.drew) (l.take n) a) : (Code.region id l.toArray true).wp P Q a w := wp_region_still_tail n hm hB h
theorem drewN_upd (w : World) (n : Nat) : Upd [] w (w.drewN n) := (Upd.refl [] w).drewN n
end Go.Proofs.Ytdjpcinibgbglaa
