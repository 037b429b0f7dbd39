/- Words of our own, of no program: which blocks a call may have turned ('Upd'), a block known whole ('HB'), and how these go on over stores, new blocks and draws. A region that draws its order, whose operations read and whose callees only grow the world: one walk ('wp_region_quiet_below'), with contracts that end in 'Upd []'. A world that has only grown: draws, and blocks of the call's own. A region that draws its order, by an invariant over what has been done. A region that draws its order, walked once: operations that only read are taken as soon as they may come up (they yield one value in every world of a class C); the others (calls, new blocks, stores) one at a time, each leaving a world of C. append of one element (of several cells) onto a row of the call's own, for the walk. A slice that is read, its elements of k cells each, as a plain list ('RowK'); a row of the call's own reads so. -/
import Derived.WalkKit
import Derived.BigQuiet
import Derived.Deep.QuietTactic
import Derived.KernelRfl
import Derived.Lib.Hide
import Derived.StillTailTactics
import Derived.Lib.QuietBelow
import Derived.Sort.Grow
import Derived.Orders
import Derived.Deep.Quiet
import Derived.StillTail
import Derived.Maps.AppendAt
set_option linter.unusedVariables false
set_option linter.unusedSimpArgs false
namespace Go.Proofs.YthbjpoiolmlpmaaGreatDoor
open Go.RowKit

/-- Of the blocks that stood in w only those of S may have turned; none has gone. -/
structure Upd (S : List Nat) (w w' : World) : Prop where
  os : w'.os = w.os
  tape : w'.tape = w.tape
  output : w'.output = w.output
  size : w.heap.size ≤ w'.heap.size
  block : ∀ k, k < w.heap.size → k ∉ S → w'.heap[k]? = w.heap[k]?

theorem Upd.refl (S : List Nat) (w : World) : Upd S w w := ⟨rfl, rfl, rfl, Nat.le_refl _, fun _ _ _ => rfl⟩
theorem Upd.trans {S T U : List Nat} {a b c : World} (h : Upd S a b) (k : Upd T b c) (hS : ∀ i, i ∈ S → i ∈ U) (hT : ∀ i, i ∈ T → i ∈ U ∨ a.heap.size ≤ i) : Upd U a c :=
  ⟨k.os.trans h.os, k.tape.trans h.tape, k.output.trans h.output, Nat.le_trans h.size k.size, fun i hi hn =>
    (k.block i (Nat.lt_of_lt_of_le hi h.size) (fun hm => (hT i hm).elim hn (fun hge => by omega))).trans (h.block i hi (fun hm => hn (hS i hm)))⟩
theorem Upd.then {S : List Nat} {a b c : World} (h : Upd S a b) (k : Upd S b c) : Upd S a c := h.trans k (fun _ h => h) (fun _ h => .inl h)
theorem Upd.then0 {S : List Nat} {a b c : World} (h : Upd S a b) (k : Upd [] b c) : Upd S a c := h.trans k (fun _ h => h) (fun _ h => by cases h)
theorem Upd.mono {S T : List Nat} {a b : World} (h : Upd S a b) (hS : ∀ i, i ∈ S → i ∈ T ∨ a.heap.size ≤ i) : Upd T a b :=
  ⟨h.os, h.tape, h.output, h.size, fun i hi hn => h.block i hi (fun hm => (hS i hm).elim hn (fun hge => by omega))⟩
theorem Upd.of0 {S : List Nat} {a b : World} (h : Upd [] a b) : Upd S a b := h.mono (fun _ h => by cases h)
theorem Upd.drew {S : List Nat} {a w : World} (h : Upd S a w) : Upd S a w.drew := ⟨h.os, h.tape, h.output, h.size, h.block⟩
theorem Upd.drewN {S : List Nat} {a w : World} (h : Upd S a w) (n : Nat) : Upd S a (w.drewN n) := ⟨h.os, h.tape, h.output, h.size, h.block⟩
theorem Upd.alloc {S : List Nat} {a w : World} (h : Upd S a w) (o : Obj) : Upd S a (w.alloc o) :=
  ⟨h.os, h.tape, h.output, by have := h.size; simp; omega, fun k hk hn => (Below.heap_alloc w o k (Nat.lt_of_lt_of_le hk h.size)).trans (h.block k hk hn)⟩
theorem Upd.setCell {S : List Nat} {a w : World} (h : Upd S a w) {p : Addr} (hp : p.block ∈ S ∨ a.heap.size ≤ p.block) (u : Value) : Upd S a (w.setCell p u) :=
  ⟨h.os, h.tape, h.output, by have := h.size; simpa [World.setCell] using this, fun k hk hn =>
    (Below.heap_setCell w p u k (fun e => by subst e; exact hp.elim hn (fun hge => by omega))).trans (h.block k hk hn)⟩
theorem Upd.of_grownBy {w w' : World} {row : Option Nat} (h : w.grownBy w' row) : Upd row.toList w w' :=
  ⟨h.os, h.tape, h.output, h.size, fun k hk hn => h.block k hk (fun e => hn (by simp [← e]))⟩
theorem Upd.grownBy {w w' : World} {row : Option Nat} (h : Upd row.toList w w') : w.grownBy w' row :=
  ⟨h.os, h.tape, h.output, h.size, fun k hk hn => h.block k hk (fun hm => hn (by simp at hm; exact hm.symm))⟩
theorem Upd.below {w w' : World} (h : Upd [] w w') : Below w.heap.size w w' := ⟨h.os, h.tape, h.output, h.size, fun k hk => h.block k hk (by simp)⟩
theorem Upd.of_below {w w' : World} (h : Below w.heap.size w w') : Upd [] w w' := ⟨h.os, h.tape, h.output, h.size, fun k hk _ => h.block k hk⟩
theorem Upd.of_belowN {w w' : World} {B : Nat} (h : Below B w w') (hB : w.heap.size ≤ B) : Upd [] w w' := ⟨h.os, h.tape, h.output, h.size, fun k hk _ => h.block k (by omega)⟩
theorem Upd.cell {S : List Nat} {w w' : World} (h : Upd S w w') {p : Addr} {v : Value} (hc : w.cell? p = some v) (hn : p.block ∉ S) : w'.cell? p = some v :=
  (World.cell?_of_block (w := w) (h.block p.block (World.block_lt_of_cell? w p hc) hn)).trans hc
theorem Upd.frozen {S : List Nat} {w w' : World} (h : Upd S w w') {p : Addr} (hl : p.block < w.heap.size) (hn : p.block ∉ S) : w'.frozen? p = w.frozen? p :=
  World.frozen?_of_block (w := w) (h.block p.block hl hn)

/-- Block b is a row of these cells, whole, none frozen. -/
def HB (w : World) (b : Nat) (T : TypeId) (c : List Value) : Prop := w.heap[b]? = some (.cells c.toArray T (0, 0))
theorem HB.lt {w : World} {b : Nat} {T : TypeId} {c : List Value} (h : HB w b T c) : b < w.heap.size := lt_of_block h
theorem HB.cell {w : World} {b : Nat} {T : TypeId} {c : List Value} (h : HB w b T c) {j : Nat} {v : Value} (hj : c[j]? = some v) : w.cell? ⟨b, j, none⟩ = some v := by
  unfold HB at h
  simp [World.cell?, h, hj]
theorem HB.free {w : World} {b : Nat} {T : TypeId} {c : List Value} (h : HB w b T c) (j : Nat) : w.frozen? ⟨b, j, none⟩ = false := by
  unfold HB at h
  simp [World.frozen?, h]
theorem HB.upd {S : List Nat} {w w' : World} {b : Nat} {T : TypeId} {c : List Value} (h : HB w b T c) (hU : Upd S w w') (hn : b ∉ S) : HB w' b T c := (hU.block b h.lt hn).trans h
theorem HB.drew {w : World} {b : Nat} {T : TypeId} {c : List Value} (h : HB w b T c) : HB w.drew b T c := h
theorem HB.drewN {w : World} {b : Nat} {T : TypeId} {c : List Value} (h : HB w b T c) (n : Nat) : HB (w.drewN n) b T c := h
theorem HB.alloc {w : World} {b : Nat} {T : TypeId} {c : List Value} (h : HB w b T c) (o : Obj) : HB (w.alloc o) b T c := (Below.heap_alloc w o b h.lt).trans h
theorem HB.new (w : World) (T : TypeId) (c : List Value) : HB (w.alloc (.cells c.toArray T)) w.heap.size T c := heap_alloc_new w _
theorem HB.new1 (w : World) (o : Obj) (T : TypeId) (c : List Value) : HB ((w.alloc o).alloc (.cells c.toArray T)) (w.heap.size + 1) T c := by
  have h := HB.new (w.alloc o) T c
  rwa [show (w.alloc o).heap.size = w.heap.size + 1 by simp] at h
theorem HB.setNe {w : World} {b : Nat} {T : TypeId} {c : List Value} (h : HB w b T c) {p : Addr} (hp : b ≠ p.block) (u : Value) : HB (w.setCell p u) b T c := (Below.heap_setCell w p u b hp).trans h
theorem HB.set {w : World} {b : Nat} {T : TypeId} {c : List Value} (h : HB w b T c) (j : Nat) (u : Value) : HB (w.setCell ⟨b, j, none⟩ u) b T (c.set j u) := by
  have hl := h.lt
  have h' : w.heap[b] = .cells c.toArray T (0, 0) := by simpa [HB, Array.getElem?_eq_getElem hl] using h
  show (w.heap.modify b _)[b]? = _
  rw [Array.getElem?_eq_getElem (by simpa using hl), Array.getElem_modify_self, h']
  simp [List.setIfInBounds_toArray]
theorem HB.ne {w : World} {b b' : Nat} {T T' : TypeId} {c c' : List Value} (h : HB w b T c) (h' : HB w b' T' c') (hT : T ≠ T') : b ≠ b' := by
  intro e
  subst e
  unfold HB at h h'
  rw [h] at h'
  injection h' with h'
  injection h' with _ h'
  exact hT h'
theorem HB.fresh {w : World} {b : Nat} {T : TypeId} {c : List Value} (h : HB w b T c) : b ≠ w.heap.size := Nat.ne_of_lt h.lt

/-- An owned row is kept by whatever does not turn its block. -/
theorem own_upd {S : List Nat} {w w' : World} {base : Nat} {e : TypeId} {size : Nat} {v : Value} {n : Nat} {xs : List Value} (h : w.ownsRow base e size v n xs) (hU : Upd S w w') (hn : ∀ g, v.ownBlock = some g → g ∉ S) : w'.ownsRow base e size v n xs := by
  refine ⟨h.1, ?_⟩
  rcases h.2 with h2 | ⟨g, cap, cur, rfl, hb, hg, r⟩
  · exact .inl h2
  · exact .inr ⟨g, cap, cur, rfl, hb, (hU.block g (lt_of_block hg) (hn g rfl)).trans hg, r⟩
theorem ret_int {k : IntKind} {a b : Int} (h : a = b) : Ending.returned (.int k a) = .returned (.int k b) := by rw [h]
theorem ret_bool {a b : Bool} (h : a = b) : Ending.returned (.bool a) = .returned (.bool b) := by rw [h]
theorem ret_str {a b : ByteArray} (h : a = b) : Ending.returned (.string a) = .returned (.string b) := by rw [h]
/-- A region that draws its order: reads and quiet calls (n operations), then a tail whose order is forced. -/
theorem still_tail {P : Program} {id : Nat} {Q : Exit → Act → World → Prop} {a : Act} {w : World} {l : List Oper} (n : Nat) (hm : P.follows .mixedOrders = true) (hB : Region.lexTailB .any l.toArray n = true)
    (h : wpStill P l.toArray w.drew (fun a' => wpList P l.toArray Q (l.drop n) a' w.drew) (l.take n) a) : (Code.region id l.toArray true).wp P Q a w := wp_region_still_tail n hm hB h
theorem drewN_upd (w : World) (n : Nat) : Upd [] w (w.drewN n) := (Upd.refl [] w).drewN n
end Go.Proofs.YthbjpoiolmlpmaaGreatDoor
namespace Go.Proofs.YthbjpoiolmlpmaaGreatDoor
open Go.RowKit Go.Sort

theorem rg_upd (w : World) (d : Nat) (os : Array Obj) : Upd [] w (grow (redrawn w d) os) := Upd.of_below (below_regrown w d os)
theorem rg_cell {w : World} {a : Addr} {v : Value} (h : w.cell? a = some v) (d : Nat) (os : Array Obj) : (grow (redrawn w d) os).cell? a = some v := cell_regrown h d os
/-- A contract that ends in 'Upd []', met in a world of the class. -/
theorem rg_of {P : Program} {f : FuncId} {args : Array Value} {w : World} {d : Nat} {os : Array Obj} {v : Value}
    (h : Calls P f args (grow (redrawn w d) os) fun e w' => e = .returned v ∧ Upd [] (grow (redrawn w d) os) w') : Calls P f args (grow (redrawn w d) os) fun e w'' => e = .returned v ∧ ∃ p : Regrown, w'' = grow (redrawn w p.d) p.os :=
  Calls.regrown_of (h.mono fun _ _ ⟨he, hu⟩ => ⟨he, hu.below⟩)
end Go.Proofs.YthbjpoiolmlpmaaGreatDoor
namespace Go.Proofs.YthbjpoiolmlpmaaGreatDoor
open Go.RowKit
/-- Purely growing: draws, and blocks of its own. -/
def Gr (w w' : World) : Prop := ∃ q os, w' = Sort.grow (w.drewN q) os
theorem Gr.refl (w : World) : Gr w w := ⟨0, #[], by rw [Sort.grow_empty]; rfl⟩
theorem Gr.alloc {a w : World} (h : Gr a w) (o : Obj) : Gr a (w.alloc o) := by
  obtain ⟨q, os, rfl⟩ := h
  exact ⟨q, os ++ #[o], by rw [Sort.alloc_eq_grow, Sort.grow_grow]⟩
theorem Gr.drewN {a w : World} (h : Gr a w) (n : Nat) : Gr a (w.drewN n) := by
  obtain ⟨q, os, rfl⟩ := h
  exact ⟨q + n, os, by rw [← World.drewN_drewN]; rfl⟩
theorem Gr.drew {a w : World} (h : Gr a w) : Gr a w.drew := h.drewN 1
theorem Gr.trans {a b c : World} (h : Gr a b) (k : Gr b c) : Gr a c := by
  obtain ⟨q, os, rfl⟩ := h
  obtain ⟨q', os', rfl⟩ := k
  exact ⟨q + q', os ++ os', by rw [← Sort.grow_grow, ← World.drewN_drewN]; rfl⟩
theorem Gr.upd {S : List Nat} {a b : World} (h : Gr a b) : Upd S a b := by
  obtain ⟨q, os, rfl⟩ := h
  exact ⟨rfl, rfl, rfl, by simp [Sort.grow, World.drewN], fun k hk _ => Sort.heap_grow_old _ _ hk⟩

end Go.Proofs.YthbjpoiolmlpmaaGreatDoor
namespace Go.Proofs.YthbjpoiolmlpmaaGreatDoor
open Go.RowKit

def cnt : List Bool → Nat
  | [] => 0
  | b :: l => (if b = false then 1 else 0) + cnt l
theorem cnt_set : ∀ (l : List Bool) (i : Nat), l[i]? = some false → cnt (l.set i true) + 1 = cnt l
  | [], i, h => by simp at h
  | b :: l, 0, h => by
    simp at h
    subst h
    simp [cnt]
    omega
  | b :: l, i + 1, h => by
    have := cnt_set l i (by simpa using h)
    simp only [List.set_cons_succ, cnt]
    omega
theorem cnt_zero : ∀ (l : List Bool), cnt l = 0 → ∀ (i : Nat) (b : Bool), l[i]? = some b → b = true
  | [], _, i, b, h => by simp at h
  | c :: l, hz, 0, b, h => by
    simp at h
    subst h
    cases c with
    | true => rfl
    | false => simp [cnt] at hz
  | c :: l, hz, i + 1, b, h => cnt_zero l (by simp only [cnt] at hz; omega) i b (by simpa using h)
/-- What an operation waits for stands ahead of it. -/
def lowB (ops : Array Oper) : Bool := (List.range ops.size).all fun i => ((ops[i]?).map fun o => o.after.all fun e => !Region.binds .any e || decide (e.on < i)).getD true
theorem low_of {ops : Array Oper} (h : lowB ops = true) {i : Nat} {o : Oper} (ho : ops[i]? = some o) : ∀ e ∈ o.after, Region.binds .any e = true → e.on < i := by
  unfold lowB at h
  rw [List.all_eq_true] at h
  have hi : i < ops.size := (Array.getElem?_eq_some_iff.1 ho).1
  have := h i (List.mem_range.2 hi)
  rw [ho] at this
  simp only [Option.map_some, Option.getD_some, Array.all_eq_true_iff_forall_mem, Bool.or_eq_true, Bool.not_eq_true', decide_eq_true_eq] at this
  intro e he hb
  rcases this e he with k | k
  · rw [hb] at k; cases k
  · exact k

section
variable {P : Program} {ops : Array Oper} {Q : Exit → Act → World → Prop}
theorem wpAny_inv (I : (Nat → Bool) → Act → World → Prop) (hlow : lowB ops = true)
    (hstep : ∀ D a w i o, I D a w → ops[i]? = some o → D i = false → (∀ e ∈ o.after, Region.binds .any e = true → D e.on = true) → wpOp P ops Q i (I (fun j => D j || j == i)) a w)
    (hdone : ∀ D a w, I D a w → (∀ i, i < ops.size → D i = true) → Q .normal a w) :
    ∀ (fuel : Nat) (listed : Array Bool) (a : Act) (w : World), listed.size = ops.size → cnt listed.toList = fuel → I (fun j => listed.getD j false) a w → wpAny P .any ops Q fuel listed a w := by
  intro fuel
  induction fuel with
  | zero =>
    intro listed a w hs hc hI
    have hall : ∀ i, i < ops.size → listed.getD i false = true := fun i hi => by
      have := cnt_zero _ hc i (listed[i]'(by omega)) (by simp [List.getElem?_eq_getElem (show i < listed.toList.length by simp; omega)])
      simp [Array.getD, show i < listed.size by omega, this]
    refine ⟨?_, hdone _ a w hI hall⟩
    apply List.eq_nil_iff_forall_not_mem.2
    intro j hj
    obtain ⟨h1, o, ho, _⟩ := mem_ready.1 hj
    have hi : j < ops.size := (Array.getElem?_eq_some_iff.1 ho).1
    have h2 := hall j hi
    simp [Array.getD, show j < listed.size by omega] at h1 h2
    rw [h1] at h2
    cases h2
  | succ fuel ih =>
    intro listed a w hs hc hI
    refine ⟨fun hr => ?_, fun i hi => ?_⟩
    · exfalso
      have key : ∀ n, ∀ i, i < n → i < ops.size → listed.getD i false = true := by
        intro n
        induction n with
        | zero => intro i hi; omega
        | succ n ihn =>
          intro i hi hio
          rcases Bool.eq_false_or_eq_true (listed.getD i false) with h | h
          · exact h
          · exfalso
            have hm : i ∈ Region.ready .any ops listed := by
              refine mem_ready.2 ⟨?_, ops[i], Array.getElem?_eq_getElem hio, fun e he hb => ?_⟩
              · simp [Array.getD, show i < listed.size by omega] at h ⊢
                exact h
              · have hl := low_of hlow (Array.getElem?_eq_getElem hio) e he hb
                exact ihn e.on (by omega) (by omega)
            rw [hr] at hm
            cases hm
      have hz : ∀ (l : List Bool), (∀ i, i < l.length → l.getD i false = true) → cnt l = 0 := by
        intro l
        induction l with
        | nil => intro _; rfl
        | cons b l ihl =>
          intro h
          have h0 := h 0 (by simp)
          simp at h0
          subst h0
          have := ihl (fun i hi => by simpa using h (i + 1) (by simpa using hi))
          simp [cnt, this]
      have := hz listed.toList (fun i hi => by
        have := key (i + 1) i (by omega) (by simp at hi; omega)
        simp [Array.getD, show i < listed.size by simpa using hi] at this
        simp [List.getD, show i < listed.size by simpa using hi, this])
      omega
    · obtain ⟨h1, o, ho, hd⟩ := mem_ready.1 hi
      have hio : i < ops.size := (Array.getElem?_eq_some_iff.1 ho).1
      have hil : i < listed.size := by omega
      have hf : listed[i] = false := by simpa [Array.getD, hil] using h1
      refine wpOp_mono (fun a' w' h => ?_) (hstep _ a w i o hI ho (by simp [Array.getD, hil, hf]) hd)
      refine ih _ a' w' (by simp [hs]) ?_ ?_
      · have := cnt_set listed.toList i (by simp [List.getElem?_eq_getElem (show i < listed.toList.length by simpa using hil), hf])
        rw [Array.toList_setIfInBounds]
        omega
      · have e : (fun j => (listed.setIfInBounds i true).getD j false) = fun j => listed.getD j false || j == i := by
          funext j
          by_cases hj : j = i
          · subst hj
            simp [Array.getD, hil]
          · rw [getD_set_ne false (fun e => hj e.symm)]
            have : (j == i) = false := by simpa using hj
            simp [this]
        rw [e]
        exact h
/-- One operation, as a walk's list of one. -/
theorem wpOp_of_list {K : Act → World → Prop} {a : Act} {w : World} {i : Nat} {o : Oper} (ho : ops[i]? = some o) (h : wpList P ops (Exit.then K Q) [o] a w) : wpOp P ops Q i K a w := by
  unfold wpOp
  rw [ho]
  exact h
theorem region_inv {id : Nat} {a : Act} {w : World} (hm : P.follows .mixedOrders = true) (hlow : lowB ops = true) (I : (Nat → Bool) → Act → World → Prop) (h0 : I (fun _ => false) a w.drew)
    (hstep : ∀ D a w i o, I D a w → ops[i]? = some o → D i = false → (∀ e ∈ o.after, Region.binds .any e = true → D e.on = true) → wpOp P ops Q i (I (fun j => D j || j == i)) a w)
    (hdone : ∀ D a w, I D a w → (∀ i, i < ops.size → D i = true) → Q .normal a w) : (Code.region id ops true).wp P Q a w := by
  refine wp_region_any hm (wpAny_inv I hlow hstep hdone _ _ a _ (by simp) ?_ ?_)
  · have : ∀ n, cnt (List.replicate n false) = n := by
      intro n
      induction n with
      | zero => rfl
      | succ n ih => rw [List.replicate_succ]; simp [cnt, ih]; omega
    simp [this]
  · have e : (fun j => (Array.replicate ops.size false).getD j false) = fun _ => false := by
      funext j
      simp [Array.getD]
    rw [e]
    exact h0
end
end Go.Proofs.YthbjpoiolmlpmaaGreatDoor
namespace Go.Proofs.YthbjpoiolmlpmaaGreatDoor
open Go.RowKit

def noCallB (o : Oper) : Bool := match o.op with
  | .call c => (match c.callee with | .builtin .len => true | .builtin .cap => true | .builtin .max => true | .builtin .min => true | _ => false)
  | .go _ => false | .defer _ => false | .panic _ => false | .send _ _ => false | .recv _ _ _ => false | .select _ _ => false
  | .nilCheck _ => true | .move _ => true | .assign _ => true | .load _ _ => true | .fieldAddr _ _ _ => true | .indexAddr _ _ _ => true
  | .binOp _ _ _ _ _ => true | .unOp _ _ _ => true | .extract _ _ => true | .pick _ _ _ => true | .build _ _ => true | .convert _ _ _ => true | .field _ _ _ => true | .index _ _ _ => true | .slice _ _ _ _ _ => true
  | .lookup _ _ _ _ => true
  | _ => false
abbrev QF : Exit → Act → World → Prop := fun _ _ _ => False

section
variable {P : Program} {ops : Array Oper} {Q : Exit → Act → World → Prop} {C : World → Prop}

/-- In every world of C the operation leaves v, and the world as it is. -/
def YieldsS (P : Program) (ops : Array Oper) (C : World → Prop) (o : Oper) (v : Value) (a : Act) : Prop :=
  (Region.wanted o (yielded ops a.tmps) = true ∧ ∀ w, C w → ((execOp a.eval o).run P w = .ok (.value v) w ∨ ((execOp a.eval o).run P w = .ok .skip w ∧ v = undef))) ∨
  (Region.wanted o (yielded ops a.tmps) = false ∧ v = undef)
theorem YieldsS.of_same {o : Oper} {v : Value} {a a' : Act} (hy : YieldsS P ops C o v a) (he : execOp a'.eval o = execOp a.eval o)
    (hw : Region.wanted o (yielded ops a'.tmps) = Region.wanted o (yielded ops a.tmps)) : YieldsS P ops C o v a' := by
  unfold YieldsS at *
  rw [he, hw]
  exact hy
theorem YieldsS.wpOp {i : Nat} {o : Oper} {v : Value} {a : Act} {w : World} {Q : Exit → Act → World → Prop} (hi : ops[i]? = some o) (hC : C w) (hy : YieldsS P ops C o v a) {K : Act → World → Prop} (h : K (a.put o.dst v) w) : wpOp P ops Q i K a w := by
  unfold Go.wpOp
  simp only [hi]
  rcases hy with ⟨hw, hv⟩ | ⟨hw, rfl⟩
  · simp only [hw, if_true]
    refine .inl ?_
    unfold Oper.wp
    rcases hv w hC with h1 | ⟨h1, h2⟩
    · rw [h1]; exact h
    · rw [h1]; subst h2; exact h
  · simp only [hw, Bool.false_eq_true, if_false]; exact h

theorem act_defer (a : Act) (dst : Option Tmp) (v : Value) (d : Deferred) : ({ a.put dst v with defers := d :: (a.put dst v).defers } : Act) = ({ a with defers := d :: a.defers } : Act).put dst v := by
  cases dst <;> rfl
/-- The operation j, apart from a quiet one that has already come up. -/
theorem wpOp_put {j : Nat} {oi oj : Oper} {v : Value} {w : World} (hj : ops[j]? = some oj) (hap : oi.apart ops oj = true)
    (hsi : ∀ cs b, oi.op ≠ .select cs b) (hsj : ∀ cs b, oj.op ≠ .select cs b) {K : Act → World → Prop} {a : Act}
    (hdf : ∀ (a : Act) (ds : List Deferred), YieldsS P ops C oi v a → YieldsS P ops C oi v { a with defers := ds })
    (hy : YieldsS P ops C oi v a) (h : wpOp P ops QF j K (a.put oi.dst v) w) :
    wpOp P ops QF j (fun a' w' => YieldsS P ops C oi v a' ∧ K (a'.put oi.dst v) w') a w := by
  obtain ⟨h1, h2, h3⟩ := Oper.apart_spec hap
  have keep : ∀ (a : Act), YieldsS P ops C oi v a → ∀ u, YieldsS P ops C oi v (a.put oj.dst u) := fun a hy u =>
    hy.of_same (execOp_put oi hsi a oj.dst u h3) (wanted_put oi a oj.dst u h3)
  unfold wpOp at *
  simp only [hj] at *
  rw [wanted_put oj a oi.dst v h1] at h
  split
  · rename_i hw
    simp only [hw, if_true] at h
    rcases h with h | ⟨_, _, _, h⟩
    · refine .inl ?_
      unfold Oper.wp at *
      rw [execOp_put oj hsj a oi.dst v h1] at h
      generalize (execOp a.eval oj).run P w = r at *
      cases r with
      | ok n w' =>
        cases n <;> simp only [Oper.upon] at h ⊢
        case value u => exact ⟨keep a hy u, by rw [← Act.put_comm a v u h2]; exact h⟩
        case skip => exact ⟨keep a hy _, by rw [← Act.put_comm a v undef h2]; exact h⟩
        case defer d =>
          refine ⟨keep _ (hdf a _ hy) _, ?_⟩
          rw [act_defer] at h
          rw [← Act.put_comm _ v undef h2]
          exact h
        case enter f args =>
          refine Calls.mono h ?_
          intro e w'' he
          cases e with
          | returned u => exact ⟨keep a hy u, by rw [← Act.put_comm a v u h2]; exact he⟩
          | panicked c => exact he
          | outgrown => exact he
        case row f args => exact Rows.mono h (fun u w'' he => ⟨keep a hy u, by rw [← Act.put_comm a v u h2]; exact he⟩)
      | halt x w' => cases x <;> first | exact False.elim h | (simp only [Oper.upon] at h)
    · exact h.elim
  · rename_i hw
    simp only [hw] at h
    exact ⟨keep a hy _, by rw [← Act.put_comm a v undef h2]; exact h⟩
theorem yieldsS_defers {o : Oper} {v : Value} (a : Act) (ds : List Deferred) (h : YieldsS P ops C o v a) : YieldsS P ops C o v { a with defers := ds } := h

/-- No way out but the next operation. -/
theorem wpOp_ofF {i : Nat} {a : Act} {w : World} {K : Act → World → Prop} (h : wpOp P ops QF i K a w) : wpOp P ops Q i K a w := by
  unfold wpOp at *
  split
  · simpa [*] using h
  · rename_i o ho
    simp only [ho] at h
    split
    · rename_i hw
      simp only [hw, if_true] at h
      rcases h with h | ⟨_, _, _, h⟩
      · refine .inl ?_
        unfold Oper.wp at *
        generalize (execOp a.eval o).run P w = r at *
        cases r with
        | ok n w' =>
          cases n <;> simp only [Oper.upon] at h ⊢ <;> first
            | exact h
            | (refine Calls.mono h ?_
               intro e w'' he
               cases e with
               | returned u => exact he
               | panicked c => exact he.elim
               | outgrown => obtain ⟨_, _, he⟩ := he; exact he.elim)
        | halt x w' => cases x <;> first | exact False.elim h | (simp only [Oper.upon] at h)
      · exact h.elim
    · rename_i hw
      simp only [hw] at h
      exact h

/-- Each operation below n is waited for by a later one (n among them). -/
def ancM (ops : Array Oper) (n : Nat) : Bool := (List.range n).all fun i => (List.range (n + 1)).any fun j => decide (i < j) && ((ops[j]?).map fun o => o.after.any fun e => Region.binds .any e && e.on == i).getD false
theorem ancM_of {ops : Array Oper} {n : Nat} (h : ancM ops n = true) {i : Nat} (hi : i < n) : ∃ j o e, i < j ∧ j ≤ n ∧ ops[j]? = some o ∧ e ∈ o.after ∧ Region.binds .any e = true ∧ e.on = i := by
  unfold ancM at h
  rw [List.all_eq_true] at h
  have h1 := h i (List.mem_range.2 hi)
  rw [List.any_eq_true] at h1
  obtain ⟨j, hj, h2⟩ := h1
  rw [List.mem_range] at hj
  simp only [Bool.and_eq_true, decide_eq_true_eq] at h2
  cases ho : ops[j]? with
  | none => rw [ho] at h2; simp at h2
  | some o =>
    rw [ho] at h2
    simp only [Option.map_some, Option.getD_some] at h2
    obtain ⟨h3, h4⟩ := h2
    rw [Array.any_eq_true] at h4
    obtain ⟨k, hk, h5⟩ := h4
    simp only [Bool.and_eq_true, beq_iff_eq] at h5
    exact ⟨j, o, o.after[k], h3, by omega, ho, Array.getElem_mem hk, h5.1, h5.2⟩
def ClosedM (ops : Array Oper) (listed : Array Bool) : Prop := ∀ i o, ops[i]? = some o → listed.getD i false = true → ∀ e ∈ o.after, Region.binds .any e = true → listed.getD e.on false = true
theorem closedM_all {n : Nat} (hanc : ancM ops n = true) {listed : Array Bool} (hc : ClosedM ops listed) (hn : ∀ o, ops[n]? = some o → ∀ e ∈ o.after, Region.binds .any e = true → listed.getD e.on false = true) : ∀ i, i < n → listed.getD i false = true := by
  have key : ∀ d i, n - i ≤ d → i < n → listed.getD i false = true := by
    intro d
    induction d with
    | zero => intro i h1 h2; omega
    | succ d ih =>
      intro i h1 h2
      obtain ⟨j, o, e, hj, hjn, ho, he, hb, hon⟩ := ancM_of hanc h2
      rw [← hon]
      by_cases hjn2 : j = n
      · subst hjn2
        exact hn o ho e he hb
      · exact hc j o ho (ih j (by omega) (by omega)) e he hb
  exact fun i hi => key (n - i) i (Nat.le_refl _) hi
theorem closedM_set {listed : Array Bool} {i : Nat} (hc : ClosedM ops listed) (hi : i ∈ Region.ready .any ops listed) : ClosedM ops (listed.setIfInBounds i true) := by
  intro k o ho hk e he hb
  by_cases hki : k = i
  · subst hki
    obtain ⟨_, o', ho', hall⟩ := mem_ready.1 hi
    rw [ho] at ho'
    injection ho' with ho'
    subst ho'
    exact getD_set_true (hall e he hb)
  · rw [getD_set_ne false (fun e => hki e.symm)] at hk
    exact getD_set_true (hc k o ho hk e he hb)
theorem un_listed {i : Nat} {listed : Array Bool} (h0 : listed.getD i true = false) (h1 : listed.getD i false = true) : False := by
  rcases Nat.lt_or_ge i listed.size with h' | h'
  · simp [h'] at h0 h1; rw [h0] at h1; cases h1
  · simp [Array.getElem?_eq_none h'] at h1
/-- From the operation z on each waits for all ahead of it. -/
def tailB (ops : Array Oper) (z : Nat) : Bool := (List.range ops.size).all fun i => decide (i < z) || ancM ops i
theorem tail_of {z i : Nat} (h : tailB ops z = true) (hi : i < ops.size) (hz : z ≤ i) : ancM ops i = true := by
  unfold tailB at h
  rw [List.all_eq_true] at h
  have := h i (List.mem_range.2 hi)
  simp only [Bool.or_eq_true, decide_eq_true_eq] at this
  exact this.resolve_left (by omega)
def wpAnyC (P : Program) (ops : Array Oper) (C : World → Prop) (z : Nat) (Q : Exit → Act → World → Prop) : Nat → Array Bool → Act → World → Prop
  | 0, listed, a, w => Region.ready .any ops listed = [] ∧ Q .normal a w
  | fuel + 1, listed, a, w =>
    (Region.ready .any ops listed = [] → Q .normal a w) ∧
    ∀ i ∈ Region.ready .any ops listed, (z ≤ i → wpOp P ops Q i (wpAnyC P ops C z Q fuel (listed.setIfInBounds i true)) a w) ∧ (i < z → wpOp P ops QF i (fun a' w' => C w' ∧ wpAnyC P ops C z Q fuel (listed.setIfInBounds i true) a' w') a w)
theorem wpAny_ofC {z : Nat} : ∀ (fuel : Nat) (listed : Array Bool) (a : Act) (w : World), wpAnyC P ops C z Q fuel listed a w → wpAny P .any ops Q fuel listed a w
  | 0, _, _, _, h => h
  | fuel + 1, _, _, _, h => ⟨h.1, fun i hi => by
    rcases Nat.lt_or_ge i z with hz | hz
    · exact wpOp_mono (fun a' w' hh => wpAny_ofC fuel _ a' w' hh.2) (wpOp_ofF ((h.2 i hi).2 hz))
    · exact wpOp_mono (fun a' w' hh => wpAny_ofC fuel _ a' w' hh) ((h.2 i hi).1 hz)⟩

theorem wpAnyC_first {i z : Nat} {oi : Oper} {v : Value} (hz : tailB ops z = true) (hiz : i < z) (hi : ops[i]? = some oi) (hsel : ∀ (j : Nat) (o : Oper) cs b, ops[j]? = some o → o.op ≠ .select cs b) :
    ∀ (fuel : Nat) (listed : Array Bool) (a : Act) (w : World), ClosedM ops listed → C w →
      (∀ j oj, ops[j]? = some oj → j ≠ i → listed.getD j true = false → (∀ e ∈ oj.after, Region.binds .any e = true → e.on ≠ i) → oi.apart ops oj = true) →
      i ∈ Region.ready .any ops listed → YieldsS P ops C oi v a →
      wpAnyC P ops C z Q fuel (listed.setIfInBounds i true) (a.put oi.dst v) w → wpAnyC P ops C z Q (fuel + 1) listed a w := by
  have jz : ∀ (listed : Array Bool) (j : Nat), ClosedM ops listed → i ∈ Region.ready .any ops listed → j ∈ Region.ready .any ops listed → j ≠ i → j < z := by
    intro listed j hcl hr hj hji
    rcases Nat.lt_or_ge j z with h | h
    · exact h
    · exfalso
      obtain ⟨_, oj, hoj, hall⟩ := mem_ready.1 hj
      have h1 := closedM_all (tail_of hz (Array.getElem?_eq_some_iff.1 hoj).1 h) hcl (fun o ho e he hb => by rw [hoj] at ho; injection ho with ho; subst ho; exact hall e he hb) i (by omega)
      exact un_listed (mem_ready.1 hr).1 h1
  intro fuel
  induction fuel with
  | zero =>
    intro listed a w hcl hC _ hr hy H
    refine ⟨fun h => (by rw [h] at hr; cases hr), fun j hj => ?_⟩
    by_cases hji : j = i
    · subst hji; exact ⟨fun h => absurd h (by omega), fun _ => hy.wpOp hi hC ⟨hC, H⟩⟩
    · have := ready_mono hj hji
      rw [H.1] at this
      cases this
  | succ fuel ih =>
    intro listed a w hcl hC hfree hr hy H
    refine ⟨fun h => (by rw [h] at hr; cases hr), fun j hj => ?_⟩
    by_cases hji : j = i
    · subst hji; exact ⟨fun h => absurd h (by omega), fun _ => hy.wpOp hi hC ⟨hC, H⟩⟩
    · have hjz := jz listed j hcl hr hj hji
      refine ⟨fun h => absurd h (by omega), fun _ => ?_⟩
      have h1 := (H.2 j (ready_mono hj hji)).2 hjz
      obtain ⟨hjun, oj, hoj, hall⟩ := mem_ready.1 hj
      have hnot : ∀ e ∈ oj.after, Region.binds .any e = true → e.on ≠ i := fun e he hb heq => by
        have h1 := hall e he hb
        rw [heq] at h1
        exact un_listed (mem_ready.1 hr).1 h1
      have h2 := wpOp_put hoj (hfree j oj hoj hji hjun hnot) (fun cs b => hsel i oi cs b hi) (fun cs b => hsel j oj cs b hoj) (fun a ds => yieldsS_defers a ds) hy h1
      have hfree' : ∀ k ok, ops[k]? = some ok → k ≠ i → (listed.setIfInBounds j true).getD k true = false →
          (∀ e ∈ ok.after, Region.binds .any e = true → e.on ≠ i) → oi.apart ops ok = true := fun k ok hk hki hun hno => by
        refine hfree k ok hk hki ?_ hno
        by_cases hjk : j = k
        · subst hjk; exact hjun
        · rw [getD_set_ne true hjk] at hun; exact hun
      refine wpOp_mono (fun a' w' h3 => ⟨h3.2.1, ih (listed.setIfInBounds j true) a' w' (closedM_set hcl hj) h3.2.1 hfree' (ready_mono hr (Ne.symm hji)) h3.1 ?_⟩) h2
      rw [Array.setIfInBounds_comm _ _ hji]
      exact h3.2.2

theorem wpOp_of_list' {K : Act → World → Prop} {Q : Exit → Act → World → Prop} {a : Act} {w : World} {i : Nat} {o : Oper} (ho : ops[i]? = some o) (h : wpList P ops (Exit.then K Q) [o] a w) : wpOp P ops Q i K a w := by
  unfold wpOp
  rw [ho]
  exact h
theorem run_v {s : Sem Value} {w w' : World} {n : Next} (h : (do pure (Next.value (← s)) : Sem Next).run P w = .ok n w') : ∃ v, n = .value v := by
  simp only [Sem.run_bind, Sem.run_pure] at h
  cases hs : s.run P w with
  | ok v w1 =>
    rw [hs] at h
    simp only [Result.andThen_ok] at h
    injection h with h _
    exact ⟨v, h.symm⟩
  | halt x w1 => rw [hs] at h; cases h
theorem only_bind {α : Type} {s : Sem α} {f : α → Sem Next} (h : ∀ a w n w', (f a).run P w = .ok n w' → ∃ v, n = Next.value v) : ∀ w n w', (s >>= f).run P w = .ok n w' → ∃ v, n = Next.value v := by
  intro w n w' hr
  rw [Sem.run_bind] at hr
  cases hs : s.run P w with
  | ok a w1 => rw [hs] at hr; exact h a w1 n w' hr
  | halt x w1 => rw [hs] at hr; cases hr
theorem only_pure (v : Value) : ∀ w n w', (pure (Next.value v) : Sem Next).run P w = .ok n w' → ∃ v, n = Next.value v := by
  intro w n w' hr
  rw [Sem.run_pure] at hr
  injection hr with hr
  exact ⟨v, hr.symm⟩
theorem noCall_run {o : Oper} (h : noCallB o = true) {ρ : Operand → Value} {w w' : World} {n : Next} (hr : (execOp ρ o).run P w = .ok n w') : (∃ v, n = .value v) ∨ n = .skip := by
  have key : ∀ (s : Sem Value), (do pure (Next.value (← s)) : Sem Next).run P w = .ok n w' → (∃ v, n = .value v) ∨ n = .skip := fun s hs => .inl (run_v hs)
  unfold noCallB at h
  unfold execOp at hr
  split at h
  all_goals rename_i he
  all_goals first
    | (cases h; done)
    | (rw [he] at hr; simp only at hr; exact key _ hr)
    | skip
  case h_1 =>
    split at h
    all_goals rename_i hc
    all_goals first
      | (cases h; done)
      | (rw [he] at hr
         simp only [resolve, hc] at hr
         rw [Sem.run_bind, Sem.run_pure, Result.andThen_ok] at hr
         simp only [invoke, builtin] at hr
         exact key _ hr)
  case h_8 =>
    refine .inl ?_
    rw [he] at hr
    simp only at hr
    split at hr
    · cases hr
    · cases hr
    · cases hr
    · split at hr
      · cases hr
      · revert hr
        refine only_bind (fun _ => only_bind (fun _ => ?_)) _ _ _
        intro w n w' hr
        split at hr
        · revert hr
          exact only_bind (fun _ => only_pure _) _ _ _
        · exact only_pure _ _ _ _ hr
      · exact only_pure _ _ _ _ hr
    · exact only_pure _ _ _ _ hr
  case h_9 => rw [he] at hr; exact .inl (only_pure _ _ _ _ hr)
  case h_10 => rw [he] at hr; exact .inl (only_pure _ _ _ _ hr)
  case h_17 => rw [he] at hr; exact .inl (only_bind (fun _ => only_pure _) _ _ _ hr)
def idxs : List Bool → Nat → List Nat
  | [], _ => []
  | true :: m, k => k :: idxs m (k + 1)
  | false :: m, k => idxs m (k + 1)
def maskL : List Bool → List Oper → List Oper
  | true :: m, o :: l => o :: maskL m l
  | false :: m, _ :: l => maskL m l
  | _, _ => []
def mixB (ops : Array Oper) (z : Nat) : List Nat → Array Bool → Bool
  | [], _ => true
  | i :: is, listed => decide (i < z) && (Region.ready .any ops listed).contains i && Region.free .any ops listed i && ((ops[i]?).map noCallB).getD false && mixB ops z is (listed.setIfInBounds i true)
def setAll : List Nat → Array Bool → Array Bool
  | [], listed => listed
  | i :: is, listed => setAll is (listed.setIfInBounds i true)
theorem idxs_mask : ∀ (m : List Bool) (l : List Oper) (k : Nat), m.length ≤ l.length → (∀ j, l[j]? = ops[k + j]?) → (idxs m k).filterMap (fun i => ops[i]?) = maskL m l
  | [], l, k, _, _ => by cases l <;> rfl
  | b :: m, [], k, h, _ => by simp at h
  | true :: m, o :: l, k, h, hl => by
    have h0 : ops[k]? = some o := by simpa using (hl 0).symm
    simp only [idxs, maskL, List.filterMap_cons, h0]
    rw [idxs_mask m l (k + 1) (by simpa using h) (fun j => by have := hl (j + 1); simpa [Nat.add_assoc, Nat.add_comm 1 j] using this)]
  | false :: m, o :: l, k, h, hl => by
    simp only [idxs, maskL]
    exact idxs_mask m l (k + 1) (by simpa using h) (fun j => by have := hl (j + 1); simpa [Nat.add_assoc, Nat.add_comm 1 j] using this)
theorem quiet_yields {o : Oper} {a : Act} {v : Value} (hn : noCallB o = true) (hw : Region.wanted o (yielded ops a.tmps) = true) (h : ∀ w, C w → o.quietAt P a C w v) : YieldsS P ops C o v a := by
  refine .inl ⟨hw, fun w hC => ?_⟩
  have h1 := h w hC
  unfold Oper.quietAt at h1
  cases hr : (execOp a.eval o).run P w with
  | ok n w' =>
    rw [hr] at h1
    rcases noCall_run hn hr with ⟨u, rfl⟩ | rfl
    · simp only [Oper.quietUpon] at h1
      obtain ⟨rfl, rfl⟩ := h1
      exact .inl rfl
    · simp only [Oper.quietUpon] at h1
      obtain ⟨rfl, rfl⟩ := h1
      exact .inr ⟨rfl, rfl⟩
  | halt x w' => rw [hr] at h1; simp only [Oper.quietUpon] at h1
theorem mix_list {z : Nat} (hz : tailB ops z = true) (hs : Region.noSelect ops = true) {w : World} (hC : C w) (fuel : Nat) : ∀ (is : List Nat) (listed : Array Bool) (a : Act), ClosedM ops listed → mixB ops z is listed = true →
    wpQuiet P ops C (fun a' => ClosedM ops (setAll is listed) → wpAnyC P ops C z Q fuel (setAll is listed) a' w) (is.filterMap (fun i => ops[i]?)) a → wpAnyC P ops C z Q (fuel + is.length) listed a w
  | [], listed, a, hcl, _, h => h hcl
  | i :: is, listed, a, hcl, hB, h => by
    simp only [mixB, Bool.and_eq_true, decide_eq_true_eq] at hB
    obtain ⟨⟨⟨⟨h0, h1⟩, h2⟩, h3⟩, h4⟩ := hB
    cases ho : ops[i]? with
    | none => rw [ho] at h3; cases h3
    | some o =>
      rw [ho] at h3
      simp only [Option.map_some, Option.getD_some] at h3
      simp only [List.filterMap_cons, ho, wpQuiet] at h
      rw [List.length_cons, ← Nat.add_assoc]
      have hr : i ∈ Region.ready .any ops listed := by simpa using h1
      have key : ∃ v, YieldsS P ops C o v a ∧ wpQuiet P ops C (fun a' => ClosedM ops (setAll (i :: is) listed) → wpAnyC P ops C z Q fuel (setAll (i :: is) listed) a' w) (is.filterMap (fun i => ops[i]?)) (a.put o.dst v) := by
        split at h
        · rename_i hw
          obtain ⟨v, hv, hk⟩ := h
          exact ⟨v, quiet_yields h3 hw hv, hk⟩
        · rename_i hw
          exact ⟨undef, .inr ⟨by simpa using hw, rfl⟩, h⟩
      obtain ⟨v, hy, hk⟩ := key
      exact wpAnyC_first hz h0 ho (Region.noSelect_spec hs) _ listed a w hcl hC (Region.free_spec ho h2) hr hy (mix_list hz hs hC fuel is _ _ (closedM_set hcl hr) h4 hk)
end
section
variable {P : Program} {l : List Oper} {Q : Exit → Act → World → Prop} {C : World → Prop}
/-- What is left of a drawn region. -/
def MixAt (P : Program) (ops : Array Oper) (C : World → Prop) (z : Nat) (Q : Exit → Act → World → Prop) (n : Nat) (listed : Array Bool) (a : Act) (w : World) : Prop := ClosedM ops listed → wpAnyC P ops C z Q n listed a w
/-- Operations that only read, all of which may come up now (the mask m), in this order. -/
theorem mix_quiet {n z : Nat} {listed : Array Bool} {a : Act} {w : World} (m : List Bool) (fuel : Nat) (hn : n = fuel + (idxs m 0).length) (hm : decide (m.length ≤ l.length) = true) (hz : tailB l.toArray z = true) (hs : Region.noSelect l.toArray = true) (hB : mixB l.toArray z (idxs m 0) listed = true) (hC : C w)
    (h : wpQuiet P l.toArray C (fun a' => MixAt P l.toArray C z Q fuel (setAll (idxs m 0) listed) a' w) (maskL m l) a) : MixAt P l.toArray C z Q n listed a w := by
  intro hcl
  rw [hn]
  refine mix_list hz hs hC fuel _ listed a hcl hB ?_
  rw [idxs_mask m l 0 (of_decide_eq_true hm) (by simp)]
  exact h
theorem mask_one : ∀ (i : Nat) (l : List Oper) (o : Oper), maskL (List.replicate i false ++ [true]) l = [o] → l[i]? = some o := by
  intro i
  induction i with
  | zero => intro l o h; cases l with
    | nil => simp [maskL] at h
    | cons x l => cases l <;> simp [maskL] at h <;> simp [h]
  | succ i ih => intro l o h; cases l with
    | nil => simp [List.replicate_succ, maskL] at h
    | cons x l => simp only [List.replicate_succ, List.cons_append, maskL] at h; simpa using ih l o h
/-- The one operation that may come up now. -/
theorem mix_one {fuel z : Nat} {listed : Array Bool} {a : Act} {w : World} (i : Nat) (hiz : decide (i < z) = true) (hr : decide (Region.ready .any l.toArray listed = [i]) = true) {o : Oper} (ho : maskL (List.replicate i false ++ [true]) l = [o])
    (h : ∀ (K : Act → World → Prop) (QF : Exit → Act → World → Prop), (∀ a w, C w → MixAt P l.toArray C z Q fuel (listed.setIfInBounds i true) a w → K a w) → wpList P l.toArray (Exit.then K QF) [o] a w) : MixAt P l.toArray C z Q (fuel + 1) listed a w := by
  intro hcl
  have hr := of_decide_eq_true hr
  have hiz := of_decide_eq_true hiz
  have hio : l.toArray[i]? = some o := by simpa using mask_one i l o ho
  have hmem : i ∈ Region.ready .any l.toArray listed := by rw [hr]; simp
  refine ⟨fun e => (by rw [hr] at e; cases e), fun j hj => ?_⟩
  rw [hr] at hj
  obtain rfl : j = i := by simpa using hj
  exact ⟨fun h => absurd h (by omega), fun _ => wpOp_of_list' hio (h _ _ (fun a w h1 h2 => ⟨h1, h2 (closedM_set hcl hmem)⟩))⟩
/-- The two operations that may come up now: each ahead of the other. -/
theorem mix_two {fuel z : Nat} {listed : Array Bool} {a : Act} {w : World} (i j : Nat) (hiz : decide (i < z) = true) (hjz : decide (j < z) = true) (hr : decide (Region.ready .any l.toArray listed = [i, j]) = true) {o p : Oper} (ho : maskL (List.replicate i false ++ [true]) l = [o]) (hp : maskL (List.replicate j false ++ [true]) l = [p])
    (h : ∀ (K : Act → World → Prop) (QF : Exit → Act → World → Prop), (∀ a w, C w → MixAt P l.toArray C z Q fuel (listed.setIfInBounds i true) a w → K a w) → wpList P l.toArray (Exit.then K QF) [o] a w)
    (h' : ∀ (K : Act → World → Prop) (QF : Exit → Act → World → Prop), (∀ a w, C w → MixAt P l.toArray C z Q fuel (listed.setIfInBounds j true) a w → K a w) → wpList P l.toArray (Exit.then K QF) [p] a w) : MixAt P l.toArray C z Q (fuel + 1) listed a w := by
  intro hcl
  have hr := of_decide_eq_true hr
  have hiz := of_decide_eq_true hiz
  have hjz := of_decide_eq_true hjz
  have hio : l.toArray[i]? = some o := by simpa using mask_one i l o ho
  have hjo : l.toArray[j]? = some p := by simpa using mask_one j l p hp
  refine ⟨fun e => (by rw [hr] at e; cases e), fun k hk => ?_⟩
  have hk' := hk
  rw [hr] at hk'
  simp only [List.mem_cons, List.not_mem_nil, or_false] at hk'
  rcases hk' with rfl | rfl
  · exact ⟨fun h => absurd h (by omega), fun _ => wpOp_of_list' hio (h _ _ (fun a w h1 h2 => ⟨h1, h2 (closedM_set hcl hk)⟩))⟩
  · exact ⟨fun h => absurd h (by omega), fun _ => wpOp_of_list' hjo (h' _ _ (fun a w h1 h2 => ⟨h1, h2 (closedM_set hcl hk)⟩))⟩
theorem seqC {z : Nat} : ∀ (r : List Oper) (k : Nat) (listed : Array Bool) (a : Act) (w : World), z ≤ k → (∀ j, r[j]? = l.toArray[k + j]?) →
    Region.seqB .any l.toArray r.length k listed = true → wpList P l.toArray Q r a w → wpAnyC P l.toArray C z Q r.length listed a w
  | [], _, _, _, _, _, _, hB, h => ⟨by simpa [Region.seqB] using hB, h⟩
  | o :: r, k, listed, a, w, hz, hl, hB, h => by
    have h0 : l.toArray[k]? = some o := by simpa using (hl 0).symm
    simp only [List.length_cons, Region.seqB, Bool.and_eq_true, decide_eq_true_eq] at hB
    refine ⟨fun h1 => (by rw [hB.1] at h1; cases h1), fun i hi => ?_⟩
    rw [hB.1] at hi
    have hik : i = k := by simpa using hi
    subst hik
    have hw : wpOp P l.toArray Q i (wpList P l.toArray Q r) a w := by unfold wpOp; simp only [h0]; exact h
    exact ⟨fun _ => wpOp_mono (fun a' w' h' => seqC r (i + 1) _ a' w' (by omega) (fun j => by have := hl (j + 1); simpa [Nat.add_assoc, Nat.add_comm 1 j] using this) hB.2 h') hw, fun h => absurd h (by omega)⟩
/-- The rest, whose order is forced: one list. -/
theorem mix_tail {z n : Nat} {listed : Array Bool} {a : Act} {w : World} (hn : decide (n = l.length - z) = true) (hB : Region.seqB .any l.toArray (l.length - z) z listed = true)
    (h : wpList P l.toArray Q (l.drop z) a w) : MixAt P l.toArray C z Q n listed a w := by
  intro _
  rw [of_decide_eq_true hn]
  have := seqC (C := C) (P := P) (Q := Q) (l.drop z) z listed a w (Nat.le_refl _) (fun j => by simp [List.getElem?_drop]) (by rw [List.length_drop]; exact hB) h
  rwa [List.length_drop] at this
theorem mix_end {z : Nat} {listed : Array Bool} {a : Act} {w : World} (hr : decide (Region.ready .any l.toArray listed = []) = true) (h : Q .normal a w) : MixAt P l.toArray C z Q 0 listed a w := fun _ => ⟨of_decide_eq_true hr, h⟩
theorem mix_start {id n : Nat} {a : Act} {w : World} (z : Nat) (C : World → Prop) (hm : P.follows .mixedOrders = true) (hn : decide (l.length = n) = true) (h : MixAt P l.toArray C z Q n (Array.replicate n false) a w.drew) : (Code.region id l.toArray true).wp P Q a w := by
  obtain rfl := of_decide_eq_true hn
  refine wp_region_any hm ?_
  have := wpAny_ofC _ _ _ _ (h (fun i o _ h => by
    rw [getD_replicate_false] at h
    cases h))
  simpa using this
end
/-- The worlds in which of the blocks of w only those of S may have turned. -/
structure Wd (S : List Nat) (w : World) where
  v : World
  h : Upd S w v
instance (S : List Nat) (w : World) : Inhabited (Wd S w) := ⟨⟨w, Upd.refl S w⟩⟩
def InW (S : List Nat) (w : World) : World → Prop := fun w' => ∃ p : Wd S w, w' = p.v
theorem InW.of {S : List Nat} {w w' : World} (h : Upd S w w') : InW S w w' := ⟨⟨w', h⟩, rfl⟩
end Go.Proofs.YthbjpoiolmlpmaaGreatDoor
namespace Go.Proofs.YthbjpoiolmlpmaaGreatDoor
open Go.RowKit

theorem own_base {w : World} {base : Nat} {e : TypeId} {size n : Nat} {v : Value} {xs : List Value} (h : w.ownsRow base e size v n xs) (k : Nat) (hk : v.ownBlock = some k) : base ≤ k := (h.lt k hk).1
theorem own_base_mono {w : World} {base base' : Nat} {e : TypeId} {size n : Nat} {v : Value} {xs : List Value} (h : w.ownsRow base e size v n xs) (hb : base' ≤ base) : w.ownsRow base' e size v n xs := by
  refine ⟨h.1, ?_⟩
  rcases h.2 with h2 | ⟨g, cap, cur, hv, hg, r⟩
  · exact .inl h2
  · exact .inr ⟨g, cap, cur, hv, Nat.le_trans hb hg, r⟩
theorem own_lt {w : World} {base : Nat} {e : TypeId} {size n : Nat} {v : Value} {xs : List Value} (h : w.ownsRow base e size v n xs) (k : Nat) (hk : v.ownBlock = some k) : k < w.heap.size := (h.lt k hk).2
theorem own_shape {w : World} {base n : Nat} {e : TypeId} {size : Nat} {v : Value} {xs : List Value} (h : w.ownsRow base e size v n xs) : ∃ A c, v = .slice A n c ∧ n ≤ c ∧ c ≤ maxLen ∧ (A = none → c = 0) := by
  rcases h.2 with ⟨rfl, rfl⟩ | ⟨g, cap, cur, rfl, _, _, h1, h2, _⟩
  · exact ⟨none, 0, rfl, Nat.le_refl _, Nat.zero_le _, fun _ => rfl⟩
  · exact ⟨_, cap, rfl, h1, h2, by simp⟩
theorem own_cell {w : World} {base n cap : Nat} {e : TypeId} {size : Nat} {A : Option Addr} {xs : List Value} (h : w.ownsRow base e size (.slice A n cap) n xs) (j : Nat) (u : Value) (hj : xs[j]? = some u) : ∃ g, A = some ⟨g, 0, none⟩ ∧ w.cell? ⟨g, j, none⟩ = some u ∧ base ≤ g := by
  rcases h.2 with ⟨h1, rfl⟩ | ⟨g, cap', cur, h1, hb, hg, _⟩
  · have := h.1
    simp at this
    subst this
    simp at hj
  · injection h1 with h1 h2 h3
    subst h1
    have := h.cells (g := g) rfl j u hj
    refine ⟨g, rfl, ?_, hb⟩
    rwa [show (⟨g, 0, none⟩ : Addr).add j = ⟨g, j, none⟩ by rw [Addr.add_lit, Nat.zero_add]] at this

section
variable {P : Program} {ops : Array Oper} {rest : List Oper} {o : Oper} {a : Act} {Q : Exit → Act → World → Prop}
/-- append(v, ys...): ys a slice that is read. -/
theorem wp_appendN {W : World} (base : Nat) (t e : TypeId) (z : Value) (size bytes : Nat) (v : Value) (n : Nat) (xs : List Value) (A : Option Addr) (m c : Nat) (news : List Value) {s x : Operand} (hgd : o.guard = none)
    (ho : o.op = .call { callee := .builtin .append, args := #[s, x], argTypes := #[t, t] })
    (ht : P.underlying t = some (.slice e)) (hinfo : (P.info? e).map (fun i => (i.zero, i.size, i.bytes)) = some (some z, size, bytes)) (hz : z.cells.size = size) (hsz : 0 < size) (hb0 : 0 < bytes)
    (hs : a.eval s = v) (hx : a.eval x = .slice A m c) (hA : A = none → c = 0) (hmc : m ≤ c) (hln : news.length = m * size) (hnews : ∀ j u, news[j]? = some u → ∃ b o, A = some ⟨b, o, none⟩ ∧ W.cell? ⟨b, o + j, none⟩ = some u) (h1 : ∀ u ∈ news, u.oneCell' = true)
    (HO : W.ownsRow base e size v n xs) (hbase : base ≤ W.heap.size) (hl : (n + m) * bytes ≤ 140737488355328)
    (h : ∀ v1 w1, w1.ownsRow base e size v1 (n + m) (xs ++ news) → Upd v.ownBlock.toList W w1 → (v1.ownBlock = v.ownBlock ∨ ∃ b, v1.ownBlock = some b ∧ W.heap.size ≤ b) → wpList P ops Q rest (a.put o.dst v1) w1) :
    wpList P ops Q (o :: rest) a W := by
  obtain ⟨i0, hi, hzz⟩ := Option.map_eq_some_iff.1 hinfo
  simp only [Prod.mk.injEq] at hzz
  obtain ⟨hz0, hz1, hz2⟩ := hzz
  have hlen : n + m ≤ 140737488355328 := Nat.le_trans (Nat.le_mul_of_pos_right _ hb0) hl
  cases A with
  | some ad =>
    refine wpList_append_own_at W hgd s x t ho base e i0 z size bytes ht hi hz0 hz1 hz2 hz hsz v n xs hs HO ad m c news hx hln
      (fun j u hj => ?_) h1 (by simp only [maxLen]; omega) hl hbase ?_
    · obtain ⟨b, o, he, hc⟩ := hnews j u hj
      injection he with he
      subst he
      rw [Addr.add_lit]
      exact hc
    · intro v1 w1 hown hg _ hat
      refine h v1 w1 hown (Upd.of_grownBy hg) ?_
      rcases hat with hat | hat
      · exact .inl hat
      · exact .inr ⟨_, hat, Nat.le_refl _⟩
  | none =>
    obtain rfl : c = 0 := hA rfl
    obtain rfl : m = 0 := by omega
    obtain rfl : news = [] := List.eq_nil_of_length_eq_zero (by simpa using hln)
    refine wpList_plain hgd fun K hK => ?_
    have hrun := run_append_owned_none (P := P) W base t o.type e i0 size ht hi v n xs HO
    unfold Oper.wp execOp
    simp only [ho, resolve, invoke, builtin, Sem.run_bind, Sem.run_pure, Result.andThen_ok, List.map_toArray, List.map_cons, List.map_nil, hs, hx]
    rw [hrun]
    exact hK _ _ (h v W (by simpa using HO) (Upd.refl _ _) (.inl rfl))
/-- append(v, y), y's cells in the literal's block. -/
theorem wp_append1 {W : World} (base : Nat) (t e : TypeId) (z : Value) (size bytes : Nat) (v : Value) (n : Nat) (xs ys : List Value) (b : Nat) {s x : Operand} (hgd : o.guard = none)
    (ho : o.op = .call { callee := .builtin .append, args := #[s, x], argTypes := #[t, t] })
    (ht : P.underlying t = some (.slice e)) (hinfo : (P.info? e).map (fun i => (i.zero, i.size, i.bytes)) = some (some z, size, bytes)) (hz : z.cells.size = size) (hsz : 0 < size) (hb0 : 0 < bytes)
    (hs : a.eval s = v) (hx : a.eval x = .slice (some ⟨b, 0, none⟩) 1 1) (hy : ys.length = size) (h1 : ∀ u ∈ ys, u.oneCell' = true)
    (HO : W.ownsRow base e size v n xs) (hB : HB W b e ys) (hbase : base ≤ W.heap.size) (hl : (n + 1) * bytes ≤ 140737488355328)
    (h : ∀ v1 w1, w1.ownsRow base e size v1 (n + 1) (xs ++ ys) → Upd v.ownBlock.toList W w1 → (v1.ownBlock = v.ownBlock ∨ ∃ b, v1.ownBlock = some b ∧ W.heap.size ≤ b) → wpList P ops Q rest (a.put o.dst v1) w1) :
    wpList P ops Q (o :: rest) a W :=
  wp_appendN base t e z size bytes v n xs (some ⟨b, 0, none⟩) 1 1 ys hgd ho ht hinfo hz hsz hb0 hs hx (by simp) (Nat.le_refl _) (by omega) (fun j u hj => ⟨b, 0, rfl, by rw [Nat.zero_add]; exact hB.cell hj⟩) h1 HO hbase hl h
end
theorem flat_length {α : Type} (enc : α → List Value) (k : Nat) (hk : ∀ x, (enc x).length = k) (l : List α) : (l.flatMap enc).length = l.length * k := by
  induction l with
  | nil => simp
  | cons x l ih => rw [List.flatMap_cons, List.length_append, hk, ih, List.length_cons, Nat.succ_mul]; omega

end Go.Proofs.YthbjpoiolmlpmaaGreatDoor
namespace Go.Proofs.YthbjpoiolmlpmaaGreatDoor
open Go.RowKit

def RowK {α : Type} (w : World) (F : Nat → Prop) (enc : α → List Value) (k : Nat) (v : Value) (xs : List α) : Prop :=
  ∃ A c, v = .slice A xs.length c ∧ xs.length ≤ c ∧ c ≤ maxLen ∧ (A = none → c = 0) ∧
    ∀ (i : Nat) (x : α), xs[i]? = some x → ∃ b o, A = some ⟨b, o, none⟩ ∧ F b ∧ ∀ j u, (enc x)[j]? = some u → w.cell? ⟨b, o + i * k + j, none⟩ = some u
theorem RowK.upd {α : Type} {w w' : World} {F : Nat → Prop} {enc : α → List Value} {k : Nat} {v : Value} {xs : List α} (h : RowK w F enc k v xs) {S : List Nat} (hU : Upd S w w') (hF : ∀ b, b ∈ S → ¬ F b) : RowK w' F enc k v xs := by
  obtain ⟨A, c, h1, h2, h3, h4, h5⟩ := h
  refine ⟨A, c, h1, h2, h3, h4, fun i x hx => ?_⟩
  obtain ⟨b, o, r1, r2, r3⟩ := h5 i x hx
  exact ⟨b, o, r1, r2, fun j u hj => hU.cell (r3 j u hj) (fun hm => hF _ hm r2)⟩
theorem RowK.upd0 {α : Type} {w w' : World} {F : Nat → Prop} {enc : α → List Value} {k : Nat} {v : Value} {xs : List α} (h : RowK w F enc k v xs) (hU : Upd [] w w') : RowK w' F enc k v xs := h.upd hU (fun _ h => by cases h)
theorem RowK.mono {α : Type} {w : World} {F G : Nat → Prop} {enc : α → List Value} {k : Nat} {v : Value} {xs : List α} (h : RowK w F enc k v xs) (hFG : ∀ b, F b → G b) : RowK w G enc k v xs := by
  obtain ⟨A, c, h1, h2, h3, h4, h5⟩ := h
  refine ⟨A, c, h1, h2, h3, h4, fun i x hx => ?_⟩
  obtain ⟨b, o, r1, r2, r3⟩ := h5 i x hx
  exact ⟨b, o, r1, hFG _ r2, r3⟩
theorem RowK.shape {α : Type} {w : World} {F : Nat → Prop} {enc : α → List Value} {k : Nat} {v : Value} {xs : List α} (h : RowK w F enc k v xs) : ∃ A c, v = .slice A xs.length c ∧ xs.length ≤ c ∧ c ≤ maxLen ∧ (A = none → c = 0) := by
  obtain ⟨A, c, h1, h2, h3, h4, _⟩ := h
  exact ⟨A, c, h1, h2, h3, h4⟩
/-- Element i: where it lies. -/
theorem RowK.at_ {α : Type} {w : World} {F : Nat → Prop} {enc : α → List Value} {k : Nat} {A : Option Addr} {n c : Nat} {xs : List α} (h : RowK w F enc k (.slice A n c) xs) {i : Nat} {x : α} (hx : xs[i]? = some x) :
    ∃ b o, A = some ⟨b, o, none⟩ ∧ F b ∧ ∀ j u, (enc x)[j]? = some u → w.cell? ⟨b, o + i * k + j, none⟩ = some u := by
  obtain ⟨A', c', h1, _, _, _, h5⟩ := h
  injection h1 with h1 h2 h3
  subst h1
  exact h5 i x hx
theorem RowK.len {α : Type} {w : World} {F : Nat → Prop} {enc : α → List Value} {k : Nat} {A : Option Addr} {n c : Nat} {xs : List α} (h : RowK w F enc k (.slice A n c) xs) : n = xs.length := by
  obtain ⟨A', c', h1, _⟩ := h
  injection h1
theorem RowK.nil {α : Type} (w : World) (F : Nat → Prop) (enc : α → List Value) (k : Nat) : RowK w F enc k (.slice none 0 0) [] :=
  ⟨none, 0, rfl, Nat.le_refl _, Nat.zero_le _, fun _ => rfl, fun i x hx => by simp at hx⟩

theorem flatMap_get {α : Type} {k : Nat} (enc : α → List Value) (hk : ∀ x, (enc x).length = k) : ∀ (xs : List α) (i : Nat) (x : α), xs[i]? = some x → ∀ j u, (enc x)[j]? = some u → (xs.flatMap enc)[i * k + j]? = some u
  | [], i, x, h => by simp at h
  | y :: xs, 0, x, h => by
    simp at h
    subst h
    intro j u hj
    have hj' := (List.getElem?_eq_some_iff.1 hj).1
    rw [List.flatMap_cons, Nat.zero_mul, Nat.zero_add, List.getElem?_append_left hj', hj]
  | y :: xs, i + 1, x, h => by
    intro j u hj
    rw [List.flatMap_cons, List.getElem?_append_right (by rw [hk, Nat.succ_mul]; omega), hk, show (i + 1) * k + j - k = i * k + j by rw [Nat.succ_mul]; omega]
    exact flatMap_get enc hk xs i x (by simpa using h) j u hj

theorem own_row {α : Type} {enc : α → List Value} {k : Nat} (hk : ∀ x, (enc x).length = k) (h0 : 0 < k) {w : World} {base n : Nat} {e : TypeId} {v : Value} {xs : List α} (h : w.ownsRow base e k v n (xs.flatMap enc)) :
    n = xs.length ∧ RowK w (base ≤ ·) enc k v xs := by
  have hl : xs.length = n := by
    have := h.1
    rw [flat_length enc k hk] at this
    exact Nat.eq_of_mul_eq_mul_right h0 this
  refine ⟨hl.symm, ?_⟩
  obtain ⟨A, c, rfl, h1, h2, h3⟩ := own_shape h
  refine ⟨A, c, by rw [hl], by omega, h2, h3, fun i x hx => ?_⟩
  have hlx : (enc x).length = k := hk x
  obtain ⟨b, hb, _, hbb⟩ := own_cell h (i * k + 0) _ (flatMap_get enc hk xs i x hx 0 ((enc x)[0]'(by omega)) (List.getElem?_eq_getElem _))
  refine ⟨b, 0, hb, hbb, fun j u hj => ?_⟩
  obtain ⟨b1, hb1, hc1, _⟩ := own_cell h (i * k + j) u (flatMap_get enc hk xs i x hx j u hj)
  rw [hb] at hb1
  injection hb1 with hb1
  injection hb1 with hb1
  subst hb1
  rw [Nat.zero_add]
  exact hc1

/-- Two rows of the call's own that do not share a block. -/
def Apart (v v' : Value) : Prop := ∀ g, v.ownBlock = some g → v'.ownBlock ≠ some g
theorem Apart.nilL (v : Value) : Apart (.slice none 0 0) v := fun g h => by simp [Value.ownBlock] at h
theorem Apart.nilR (v : Value) : Apart v (.slice none 0 0) := fun g _ h => by simp [Value.ownBlock] at h
theorem Apart.symm {v v' : Value} (h : Apart v v') : Apart v' v := fun g h1 h2 => h g h2 h1
/-- v has been appended to (it stays, or lies in new memory): it is still apart from a row that stood. -/
theorem Apart.grown {v v1 v' : Value} {n : Nat} (h : Apart v v') (hat : v1.ownBlock = v.ownBlock ∨ ∃ b, v1.ownBlock = some b ∧ n ≤ b) (hlt : ∀ g, v'.ownBlock = some g → g < n) : Apart v1 v' := by
  intro g h1 h2
  rcases hat with hat | ⟨b, hb, hn⟩
  · exact h g (hat ▸ h1) h2
  · rw [hb] at h1
    injection h1 with h1
    have := hlt g h2
    omega
theorem Apart.upd {v v' : Value} (h : Apart v v') : ∀ g, v'.ownBlock = some g → g ∉ v.ownBlock.toList := by
  intro g h1 h2
  simp at h2
  exact h g h2 h1

/-- Behind an append onto v (at W, which has only grown from wi): what is kept. -/
theorem app_upd {w wi W w1 : World} {v : Value} (hU : Upd [] w wi) (hW : Upd [] wi W) (h1 : Upd v.ownBlock.toList W w1) (hf : ∀ g, v.ownBlock = some g → w.heap.size ≤ g) : Upd [] w w1 :=
  (hU.then hW).trans h1 (fun _ h => h) (fun i hi => .inr (hf i (by simpa using hi)))
theorem app_own {wi W w1 : World} {v vo : Value} {base : Nat} {e : TypeId} {size n : Nat} {xs : List Value} (h : wi.ownsRow base e size vo n xs) (hW : Upd [] wi W) (h1 : Upd v.ownBlock.toList W w1) (ha : Apart v vo) : w1.ownsRow base e size vo n xs :=
  own_upd (own_upd h hW (fun _ _ => by simp)) h1 ha.upd
theorem RowK.at1 {α : Type} {f : α → Value} {w : World} {F : Nat → Prop} {A : Option Addr} {n c : Nat} {xs : List α} (h : RowK w F (fun x => [f x]) 1 (.slice A n c) xs) {i : Nat} {x : α} (hx : xs[i]? = some x) :
    ∃ b o, A = some ⟨b, o, none⟩ ∧ F b ∧ w.cell? ⟨b, o + i, none⟩ = some (f x) := by
  obtain ⟨b, o, h1, h2, h3⟩ := h.at_ hx
  exact ⟨b, o, h1, h2, by simpa using h3 0 _ rfl⟩
end Go.Proofs.YthbjpoiolmlpmaaGreatDoor
