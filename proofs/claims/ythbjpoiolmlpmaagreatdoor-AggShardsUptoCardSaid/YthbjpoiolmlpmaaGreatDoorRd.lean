/-
  How plain Go data reads: a code for the types that occur ('GT'), what it denotes, 'Rd': the cells read as that value; and that whatever a row's reader reads, reads so. Bulk.
-/
import Derived.Test.YthbjpoiolmlpmaaGreatDoorKern
import Derived.Test.YthbjpoiolmlpmaaGreatDoorRows
import Derived.ProofKit
import Derived.Deep.Slices
namespace Go.Proofs.YthbjpoiolmlpmaaGreatDoor
open Go.RowKit Go.Deep

inductive GT where
  | int (k : IntKind)
  | bool
  | str
  | slice (e : GT)
  | struct (c : GT)
  | nil
  | cons (a b : GT)

def GT.sz : GT → Nat
  | .int _ | .bool | .str | .slice _ => 1
  | .struct c => c.sz
  | .nil => 0
  | .cons a b => a.sz + b.sz

@[reducible] def GT.den : GT → Type
  | .int _ => Int
  | .bool => Bool
  | .str => ByteArray
  | .slice e => List e.den
  | .struct c => c.den
  | .nil => Unit
  | .cons a b => a.den × b.den

/-- In w the cells cs read as x, through blocks of F alone. -/
def Rd (w : World) (F : Nat → Prop) : (g : GT) → List Value → g.den → Prop
  | .int k, cs, x => cs = [.int k x] ∧ (Lit.int k x).wf = true
  | .bool, cs, x => cs = [.bool x]
  | .str, cs, x => cs = [.string x] ∧ x.size ≤ maxLen
  | .slice e, cs, xs => ∃ A c, cs = [.slice A xs.length c] ∧ xs.length ≤ c ∧ c ≤ maxLen ∧ (A = none → c = 0) ∧
      ∀ i x, xs[i]? = some x → ∃ b o ecs, A = some ⟨b, o, none⟩ ∧ F b ∧ ecs.length = e.sz ∧ (∀ j v, ecs[j]? = some v → w.cell? ⟨b, o + i * e.sz + j, none⟩ = some v) ∧ Rd w F e ecs x
  | .struct c, cs, x => Rd w F c cs x
  | .nil, cs, _ => cs = []
  | .cons a b, cs, x => ∃ c1 c2, cs = c1 ++ c2 ∧ Rd w F a c1 x.1 ∧ Rd w F b c2 x.2

theorem Rd.length {w : World} {F : Nat → Prop} : ∀ (g : GT) (cs : List Value) (x : g.den), Rd w F g cs x → cs.length = g.sz
  | .int _, _, _, h => by rw [h.1]; rfl
  | .bool, _, _, h => by rw [show _ = _ from h]; rfl
  | .str, _, _, h => by rw [h.1]; rfl
  | .slice _, _, _, ⟨_, _, h, _⟩ => by rw [h]; rfl
  | .struct c, cs, x, h => Rd.length c cs x h
  | .nil, _, _, h => by rw [show _ = _ from h]; rfl
  | .cons a b, _, x, ⟨c1, c2, h, h1, h2⟩ => by rw [h, List.length_append, Rd.length a c1 x.1 h1, Rd.length b c2 x.2 h2]; rfl

/-- What is read stays, as long as no block of F is turned. -/
theorem Rd.upd {S : List Nat} {w w' : World} {F : Nat → Prop} (hU : Upd S w w') (hF : ∀ b, b ∈ S → ¬ F b) : ∀ (g : GT) (cs : List Value) (x : g.den), Rd w F g cs x → Rd w' F g cs x
  | .int _, _, _, h => h
  | .bool, _, _, h => h
  | .str, _, _, h => h
  | .slice e, _, _, ⟨A, c, h1, h2, h3, h4, h5⟩ => ⟨A, c, h1, h2, h3, h4, fun i x hx => by
      obtain ⟨b, o, ecs, r1, r2, r3, r4, r5⟩ := h5 i x hx
      exact ⟨b, o, ecs, r1, r2, r3, fun j v hj => hU.cell (r4 j v hj) (fun hm => hF _ hm r2), Rd.upd hU hF e ecs x r5⟩⟩
  | .struct c, cs, x, h => Rd.upd hU hF c cs x h
  | .nil, _, _, h => h
  | .cons a b, _, x, ⟨c1, c2, h, h1, h2⟩ => ⟨c1, c2, h, Rd.upd hU hF a c1 x.1 h1, Rd.upd hU hF b c2 x.2 h2⟩
theorem Rd.upd0 {w w' : World} {F : Nat → Prop} (hU : Upd [] w w') (g : GT) (cs : List Value) (x : g.den) (h : Rd w F g cs x) : Rd w' F g cs x := Rd.upd hU (fun _ h => by cases h) g cs x h
theorem Rd.mono {w : World} {F G : Nat → Prop} (hFG : ∀ b, F b → G b) : ∀ (g : GT) (cs : List Value) (x : g.den), Rd w F g cs x → Rd w G g cs x
  | .int _, _, _, h => h
  | .bool, _, _, h => h
  | .str, _, _, h => h
  | .slice e, _, _, ⟨A, c, h1, h2, h3, h4, h5⟩ => ⟨A, c, h1, h2, h3, h4, fun i x hx => by
      obtain ⟨b, o, ecs, r1, r2, r3, r4, r5⟩ := h5 i x hx
      exact ⟨b, o, ecs, r1, hFG _ r2, r3, r4, Rd.mono hFG e ecs x r5⟩⟩
  | .struct c, cs, x, h => Rd.mono hFG c cs x h
  | .nil, _, _, h => h
  | .cons a b, _, x, ⟨c1, c2, h, h1, h2⟩ => ⟨c1, c2, h, Rd.mono hFG a c1 x.1 h1, Rd.mono hFG b c2 x.2 h2⟩

/-- No slice of elements without cells. -/
def GT.pos : GT → Bool
  | .int _ | .bool | .str | .nil => true
  | .slice e => decide (0 < e.sz) && e.pos
  | .struct c => c.pos
  | .cons a b => a.pos && b.pos
/-- What is read lies in blocks that are there. -/
theorem Rd.here {w : World} {F : Nat → Prop} : ∀ (g : GT) (cs : List Value) (x : g.den), g.pos = true → Rd w F g cs x → Rd w (fun b => F b ∧ b < w.heap.size) g cs x
  | .int _, _, _, _, h => h
  | .bool, _, _, _, h => h
  | .str, _, _, _, h => h
  | .slice e, _, _, hp, ⟨A, c, h1, h2, h3, h4, h5⟩ => ⟨A, c, h1, h2, h3, h4, fun i x hx => by
      simp only [GT.pos, Bool.and_eq_true, decide_eq_true_eq] at hp
      obtain ⟨b, o, ecs, r1, r2, r3, r4, r5⟩ := h5 i x hx
      exact ⟨b, o, ecs, r1, ⟨r2, World.block_lt_of_cell? w _ (r4 0 (ecs[0]'(by omega)) (List.getElem?_eq_getElem _))⟩, r3, r4, Rd.here e ecs x hp.2 r5⟩⟩
  | .struct c, cs, x, hp, h => Rd.here c cs x hp h
  | .nil, _, _, _, h => h
  | .cons a b, _, x, hp, ⟨c1, c2, h, h1, h2⟩ => by
      simp only [GT.pos, Bool.and_eq_true] at hp
      exact ⟨c1, c2, h, Rd.here a c1 x.1 hp.1 h1, Rd.here b c2 x.2 hp.2 h2⟩

/-! ### The code fits a type of the program -/
mutual
def GT.okT (P : Program) : GT → TypeId → Bool
  | .int k, t => (match P.underlying t with | some (.int q) => decide (q = k) | _ => false) && P.cellsOf t == 1
  | .bool, t => (match P.underlying t with | some .bool => true | _ => false) && P.cellsOf t == 1
  | .str, t => (match P.underlying t with | some .string => true | _ => false) && P.cellsOf t == 1
  | .slice e, t => (match P.underlying t with | some (.slice u) => GT.okT P e u && decide (0 < e.sz) | _ => false) && P.cellsOf t == 1
  | .struct c, t => (match P.underlying t with | some (.struct fs) => GT.okC P c fs.toList 0 | _ => false) && P.cellsOf t == c.sz
  | .nil, _ => false
  | .cons _ _, _ => false
def GT.okC (P : Program) : GT → List Field → Nat → Bool
  | .cons a b, f :: fs, off => f.offset == off && GT.okT P a f.type && GT.okC P b fs (off + a.sz)
  | .nil, [], _ => true
  | _, _, _ => false
end

theorem GT.okT_sz {P : Program} : ∀ (g : GT) (t : TypeId), g.okT P t = true → P.cellsOf t = g.sz := by
  intro g t h
  cases g <;> simp only [GT.okT, Bool.and_eq_true, beq_iff_eq] at h
  case nil => cases h
  case cons => cases h
  all_goals exact h.2

/-- How many values and letters. -/
def GT.bulk : (g : GT) → g.den → Nat
  | .int _, _ => 1
  | .bool, _ => 1
  | .str, s => s.size + 1
  | .slice e, xs => (xs.map fun x => GT.bulk e x).sum + 1
  | .struct c, x => GT.bulk c x + 1
  | .nil, _ => 0
  | .cons a b, x => GT.bulk a x.1 + GT.bulk b x.2

section
variable {H : Type} {enc : TypeId × Value → H} {P : Program} {w : World} {base : Nat} {spare : Nat → Bool} {held : Bool}
theorem bulkAll_append (l r : List (DataW H)) : Rows.uptoBulkAll (l ++ r) = Rows.uptoBulkAll l + Rows.uptoBulkAll r := by
  induction l with
  | nil => simp [Rows.uptoBulkAll]
  | cons x l ih => simp only [List.cons_append, Rows.uptoBulkAll, ih]; omega

theorem cells_get {cs : List Value} {b n : Nat} {a : Addr} (h : w.cells? b a n = some cs) : cs.length = n ∧ ∀ j v, cs[j]? = some v → w.cell? (a.add j) = some v := by
  obtain ⟨_, h2, h3⟩ := World.cells?_some h
  refine ⟨h2, fun j v hj => ?_⟩
  have hlt : j < cs.length := (List.getElem?_eq_some_iff.1 hj).1
  rw [h3 j (by omega), hj]

theorem list_of {α : Type} {p : Nat → α → Prop} : ∀ n : Nat, (∀ i, i < n → ∃ x, p i x) → ∃ xs : List α, xs.length = n ∧ ∀ i x, xs[i]? = some x → p i x
  | 0, _ => ⟨[], rfl, fun i x h => by simp at h⟩
  | n + 1, h => by
    obtain ⟨xs, hl, hx⟩ := list_of n (fun i hi => h i (by omega))
    obtain ⟨y, hy⟩ := h n (by omega)
    refine ⟨xs ++ [y], by simp [hl], fun i x hi => ?_⟩
    rcases Nat.lt_or_ge i n with hlt | hge
    · exact hx i x (by rwa [List.getElem?_append_left (by omega)] at hi)
    · rw [List.getElem?_append_right (by omega)] at hi
      have hlt : i - xs.length < [y].length := (List.getElem?_eq_some_iff.1 hi).1
      have e : i = n := by simp at hlt; omega
      subst e
      rw [hl, Nat.sub_self] at hi
      simp at hi
      exact hi ▸ hy

theorem sum_bulk {α : Type} {f : α → Nat} : ∀ (xs : List α) (ds : List (DataW H)), xs.length = ds.length → (∀ (i : Nat) (x : α) (d : DataW H), xs[i]? = some x → ds[i]? = some d → f x ≤ Rows.uptoBulk d) → (xs.map f).sum ≤ Rows.uptoBulkAll ds
  | [], _, _, _ => by simp
  | x :: xs, [], h, _ => by simp at h
  | x :: xs, d :: ds, h, hx => by
    have h1 := hx 0 x d rfl rfl
    have h2 := sum_bulk xs ds (by simpa using h) (fun i y e hy he => hx (i + 1) y e (by simpa using hy) (by simpa using he))
    simp only [List.map_cons, List.sum_cons, Rows.uptoBulkAll]
    omega

mutual
theorem openT : ∀ (g : GT) (t : TypeId) (fuel : Nat) (cs : List Value) (y : DataW H × List MemPlace), g.okT P t = true → DataW.trod enc P w base spare held fuel t cs = some y →
    ∃ x, Rd w (· < w.heap.size) g cs x ∧ g.bulk x ≤ Rows.uptoBulk y.1
  | .int k, t, fuel, cs, y, hg, h => by
    simp only [GT.okT, Bool.and_eq_true] at hg
    split at hg
    case h_1 q ht =>
      have e : q = k := of_decide_eq_true hg.1
      subst e
      obtain ⟨n, hc, hx, hw⟩ := DataW.trod_int ht h
      subst hx
      exact ⟨n, ⟨hc, hw⟩, by simp [GT.bulk, Rows.uptoBulk]⟩
    case h_2 => simp at hg
  | .bool, t, fuel, cs, y, hg, h => by
    simp only [GT.okT, Bool.and_eq_true] at hg
    split at hg
    case h_1 ht =>
      obtain ⟨n, hc, hx⟩ := DataW.trod_bool ht h
      subst hx
      exact ⟨n, hc, by simp [GT.bulk, Rows.uptoBulk]⟩
    case h_2 => simp at hg
  | .str, t, fuel, cs, y, hg, h => by
    simp only [GT.okT, Bool.and_eq_true] at hg
    split at hg
    case h_1 ht =>
      obtain ⟨s, hc, hx, hw⟩ := DataW.trod_string ht h
      subst hx
      refine ⟨s, ⟨hc, hw⟩, ?_⟩
      have e : s.data.toList.length = s.size := by rw [Array.length_toList]; rfl
      simp only [GT.bulk, Rows.uptoBulk, e]
      omega
    case h_2 => simp at hg
  | .slice e, t, fuel, cs, y, hg, h => by
    simp only [GT.okT, Bool.and_eq_true] at hg
    split at hg
    case h_1 u ht =>
      obtain ⟨hg, hz⟩ : e.okT P u = true ∧ 0 < e.sz := by simpa using hg.1
      have hcu := GT.okT_sz e u hg
      rcases open_slice ht h with ⟨rfl, rfl⟩ | ⟨a, len, cap, m, n, D, Pl, rfl, hb, hl, hm, hmm, rfl, hx⟩
      · exact ⟨[], ⟨none, 0, rfl, Nat.le_refl _, Nat.zero_le _, fun _ => rfl, fun i x hx => by simp at hx⟩, by simp [GT.bulk, Rows.uptoBulk]⟩
      · have hml : len ≤ m := by rw [hmm]; split <;> omega
        obtain ⟨xs, hxl, hxs⟩ := list_of (p := fun i (x : e.den) => ∃ ecs, w.cells? base (a.add (i * P.cellsOf u)) (P.cellsOf u) = some ecs ∧ Rd w (· < w.heap.size) e ecs x ∧ e.bulk x ≤ Rows.uptoBulk (D i)) len (fun i hi => by
          obtain ⟨cs', h1, h2⟩ := hx i (by omega)
          obtain ⟨x, hr, hb⟩ := openT e u n cs' _ hg h2
          exact ⟨x, cs', h1, hr, hb⟩)
        refine ⟨xs, ⟨some a, cap, by rw [hxl], by omega, hm, by simp, fun i x hi => ?_⟩, ?_⟩
        · obtain ⟨ecs, h1, h2, _⟩ := hxs i x hi
          obtain ⟨c1, c2⟩ := cells_get h1
          rw [hcu] at c1 c2
          have hi' : i < len := by have := (List.getElem?_eq_some_iff.1 hi).1; omega
          have hsp : a.spot = none := by
            obtain ⟨y, hy⟩ : ∃ y, xs[0]? = some y := ⟨xs[0]'(by omega), List.getElem?_eq_getElem _⟩
            obtain ⟨ec0, k1, _⟩ := hxs 0 y hy
            obtain ⟨d1, d2⟩ := cells_get k1
            rw [hcu] at d1
            have d3 := d2 0 (ec0[0]'(by omega)) (List.getElem?_eq_getElem _)
            simp only [Nat.zero_mul, Addr.add, if_true] at d3
            unfold World.cell? at d3
            cases hs : a.spot with
            | none => rfl
            | some q => rw [hs] at d3; simp at d3; split at d3 <;> cases d3
          obtain ⟨b, o, sp⟩ := a
          simp only at hsp
          subst hsp
          have c3 : ∀ j v, ecs[j]? = some v → w.cell? ⟨b, o + i * e.sz + j, none⟩ = some v := fun j v hj => by
            have := c2 j v hj
            rw [add_add, Addr.add_lit, ← Nat.add_assoc] at this
            exact this
          exact ⟨b, o, ecs, rfl, World.block_lt_of_cell? w _ (c3 0 (ecs[0]'(by omega)) (List.getElem?_eq_getElem _)), c1, c3, h2⟩
        · have hs := sum_bulk (f := e.bulk) xs ((List.range len).map D) (by simp [hxl]) (fun i x d hi hd => by
            obtain ⟨_, _, _, hb⟩ := hxs i x hi
            have hi' : i < len := by have := (List.getElem?_eq_some_iff.1 hi).1; omega
            simp [List.getElem?_map, List.getElem?_range hi'] at hd
            exact hd ▸ hb)
          simp only [GT.bulk, Rows.uptoBulk]
          have hs' : (xs.map fun x => e.bulk x).sum = (xs.map e.bulk).sum := rfl
          have : Rows.uptoBulkAll ((List.range len).map D) ≤ Rows.uptoBulkAll ((List.range len).map D) + Rows.uptoBulkAll ((List.range (m - len)).map fun j => D (len + j)) := Nat.le_add_right _ _
          omega
    case h_2 => simp at hg
  | .struct c, t, fuel, cs, y, hg, h => by
    simp only [GT.okT, Bool.and_eq_true] at hg
    split at hg
    case h_1 fs ht =>
      obtain ⟨xs, n, hf, hy, hl, hxl, hxs⟩ := DataW.trod_struct ht h
      subst hy
      have hc : P.cellsOf t = c.sz := by simpa using hg.2
      obtain ⟨x, hr, hb⟩ := openC c fs.toList 0 n cs xs hg.1 (by simpa using hxl) (by omega) (fun i f hf => hxs i f (by simpa using hf))
      refine ⟨x, hr, ?_⟩
      simp only [GT.bulk, Rows.uptoBulk]
      omega
    case h_2 => simp at hg
  | .nil, _, _, _, _, hg, _ => by simp [GT.okT] at hg
  | .cons _ _, _, _, _, _, hg, _ => by simp [GT.okT] at hg
theorem openC : ∀ (g : GT) (fs : List Field) (off n : Nat) (cs : List Value) (xs : List (DataW H × List MemPlace)), g.okC P fs off = true → xs.length = fs.length → cs.length = off + g.sz →
    (∀ (i : Nat) (f : Field), fs[i]? = some f → DataW.trod enc P w base spare held n f.type ((cs.drop f.offset).take (P.cellsOf f.type)) = xs[i]?) →
    ∃ x, Rd w (· < w.heap.size) g (cs.drop off) x ∧ g.bulk x ≤ Rows.uptoBulkAll (xs.map (·.1))
  | .cons a b, f :: fs, off, n, cs, [], hg, hl, hcs, hx => by simp at hl
  | .cons a b, f :: fs, off, n, cs, y :: ys, hg, hl, hcs, hx => by
    simp only [GT.okC, Bool.and_eq_true, beq_iff_eq] at hg
    obtain ⟨⟨ho, ha⟩, hb⟩ := hg
    have hca := GT.okT_sz a f.type ha
    have h0 := hx 0 f rfl
    rw [ho, hca] at h0
    obtain ⟨x1, r1, b1⟩ := openT a f.type n _ y ha (by simpa using h0)
    simp only [GT.sz] at hcs
    obtain ⟨x2, r2, b2⟩ := openC b fs (off + a.sz) n cs ys hb (by simpa using hl) (by omega) (fun i f' hf' => by simpa using hx (i + 1) f' (by simpa using hf'))
    refine ⟨(x1, x2), ⟨(cs.drop off).take a.sz, cs.drop (off + a.sz), ?_, r1, r2⟩, ?_⟩
    · rw [← List.drop_drop, List.take_append_drop]
    · simp only [GT.bulk, List.map_cons, Rows.uptoBulkAll]
      omega
  | .nil, [], off, n, cs, xs, hg, hl, hcs, hx => ⟨(), by simp only [GT.sz, Nat.add_zero] at hcs; show cs.drop off = []; rw [← hcs, List.drop_length], by simp [GT.bulk]⟩
  | .cons _ _, [], _, _, _, _, hg, _, _, _ => by simp [GT.okC] at hg
  | .nil, _ :: _, _, _, _, _, hg, _, _, _ => by simp [GT.okC] at hg
  | .int _, _, _, _, _, _, hg, _, _, _ => by simp [GT.okC] at hg
  | .bool, _, _, _, _, _, hg, _, _, _ => by simp [GT.okC] at hg
  | .str, _, _, _, _, _, hg, _, _, _ => by simp [GT.okC] at hg
  | .slice _, _, _, _, _, _, hg, _, _, _ => by simp [GT.okC] at hg
  | .struct _, _, _, _, _, _, hg, _, _, _ => by simp [GT.okC] at hg
end
end
end Go.Proofs.YthbjpoiolmlpmaaGreatDoor
