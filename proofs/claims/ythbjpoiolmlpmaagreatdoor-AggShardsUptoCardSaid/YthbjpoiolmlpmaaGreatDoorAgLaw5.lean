/- Told lists: what the walks of the laws want of them. A law's rows as they come in. -/
import Derived.Test.YthbjpoiolmlpmaaGreatDoorAgRd
import Derived.Test.YthbjpoiolmlpmaaGreatDoorToldC
import Derived.Test.YthbjpoiolmlpmaaGreatDoorLift
set_option linter.unusedVariables false
set_option linter.unusedSimpArgs false
namespace Go.Proofs.YthbjpoiolmlpmaaGreatDoor
open Go.RowKit
theorem Tells.told {E : List KE} {g g' : GV} {ids : List Int} {ws : List (Int × List TL)} (h : Tells E g ids ws g') : ∀ q ∈ ws, ∃ g, Told E g q.1 q.2 := by
  induction h with
  | nil => intro q hq; cases hq
  | cons h t ih =>
    intro q hq
    rcases List.mem_cons.1 hq with rfl | hq
    · exact ⟨_, h⟩
    · exact ih q hq
theorem told_c_le {E : List KE} {g : GV} {id : Int} {T : List TL} (h : Told E g id T) {t : TL} (ht : t ∈ T) : t.c ≤ E.length := by
  rw [h.eq t ht]
  show (tkOf E id t.met).n ≤ _
  rw [tkOf_n]
  have := List.length_filter_le (inM id t.met) E
  omega
theorem runE_told {rows : List KE} {ws : List (Int × List TL)} {A' : AgE} (h : Closes (runE rows) mxI ws A') : ∀ q ∈ ws, ∃ g, Told (rows.filter accB) g q.1 q.2 := by
  obtain ⟨ids, _, h2⟩ := runE_closes h
  exact h2.told
theorem runE_ok (l : List KE) : (runE l).ok l.length := by
  have key : ∀ (l : List KE) (A : AgE) (M : Nat), A.ok M → (l.foldl (fun A p => A.apply p.1 p.2) A).ok (M + l.length) := by
    intro l
    induction l with
    | nil => intro A M h; exact h
    | cons p l ih =>
      intro A M h
      have := ih _ _ (AgE.ok_apply h p.1 p.2)
      rw [List.foldl_cons, List.length_cons, show M + (l.length + 1) = M + 1 + l.length by omega]
      exact this
  have := key l _ 0 AgE.new_ok
  rwa [Nat.zero_add] at this
theorem AgE.ok.wf_close {A A' : AgE} {M : Nat} {id : Int} {ws : List (Int × List TL)} (h : A.ok M) (hM : M ≤ 1048576) (hc : Closes A id ws A') : ∀ q ∈ ws, ∀ t ∈ q.2, t.wf := hc.wf h (by omega)
theorem of_wf_i {x : Int} (h : (Lit.int .i64 x).wf = true) : I64 x := by
  have h' : (decide (-9223372036854775808 ≤ x) && decide (x ≤ 9223372036854775807)) = true := h
  simp at h'
  unfold I64
  omega
/-- What each tally of the laws' told says. -/
structure Smp (t : TL) : Prop where
  c1 : 1 ≤ t.c
  c2 : t.c ≤ 1048576
  sum : I128 t.sum
  wt : I128 t.wt
  smp : ∀ x ∈ t.smp, I64 x
  tim : t.k = 3 → t.smp.Pairwise (· ≤ ·) ∧ t.smp.sum = t.sum ∧ (t.smp.length : Int) = t.c ∧ t.c * 1000000 ≤ t.wt
  set : t.k = 4 → t.mem.Pairwise (fun a b => sLt a b = true) ∧ 1 ≤ t.mem.length ∧ (t.mem.length : Int) ≤ t.c
theorem smp_law {rows : List KE} {ws : List (Int × List TL)} {A' : AgE} (hl : rows.length ≤ 1048576) (h : Closes (runE rows) mxI ws A') : ∀ q ∈ ws, ∀ t ∈ q.2, Smp t := by
  intro q hq t ht
  have hw := (runE_ok rows).wf_close hl h q hq t ht
  obtain ⟨g, hT⟩ := runE_told h q hq
  have hE : ∀ p ∈ rows.filter accB, chk p.2 = 0 := acc_ok
  have hle := told_c_le hT ht
  have := List.length_filter_le accB rows
  exact ⟨told_c_pos hT ht, by omega, hw.sum, hw.wt, fun x hx => of_wf_i (hw.smp x hx), fun hk => told_tim hE hT ht hk, fun hk => told_set hT ht hk⟩
theorem sum_i128 {l : List Int} (h : ∀ x ∈ l, I64 x) (hl : l.length ≤ 1048576) : I128 l.sum := by
  have key : ∀ l : List Int, (∀ x ∈ l, I64 x) → l.sum.natAbs ≤ l.length * 9223372036854775808 := by
    intro l
    induction l with
    | nil => simp
    | cons a l ih =>
      intro h
      have h1 := h a (by simp)
      have h2 := ih (fun x hx => h x (List.mem_cons_of_mem _ hx))
      unfold I64 at h1
      simp only [List.sum_cons, List.length_cons]
      omega
  have := key l h
  unfold I128
  omega
abbrev TWide : TypeId := 39
def wC (z : Int) : List Value := [.int .i64 (wh z), .int .u64 (wl z)]
theorem WinsAt.at_ {w : World} {B base : Nat} {v : Value} {cw : List WCL} (h : WinsAt w B base v cw) {i : Nat} {c : WCL} (hc : cw[i]? = some c) :
    ∃ b m, v = .slice (some ⟨b, 0, none⟩) cw.length m ∧ B ≤ b ∧ (w.cell? ⟨b, i * 2, none⟩ = some (.int .i64 c.id) ∧ w.cell? ⟨b, i * 2 + 1, none⟩ = some c.tv) ∧ WinAt w B base c ∧ c.us.length ≤ 9223372036854775807 ∧ ∃ A m', c.tv = .slice A c.us.length m' := by
  obtain ⟨A, m, e, _⟩ := own_shape h.row
  have hr := h.row
  rw [e] at hr
  obtain ⟨b, e2, h0, hb⟩ := own_cell hr (i * 2 + 0) _ (flatMap_get WCL.cells WCL.len _ i c hc 0 _ rfl)
  obtain ⟨b', e3, h1, _⟩ := own_cell hr (i * 2 + 1) _ (flatMap_get WCL.cells WCL.len _ i c hc 1 _ rfl)
  rw [e2] at e3
  injection e3 with e3
  injection e3 with e3
  subst e3
  have hw := h.wins c (List.mem_of_getElem? hc)
  obtain ⟨A', m', e4, l1, l2, _⟩ := own_shape hw.1
  unfold maxLen at l2
  exact ⟨b, m, by rw [e, e2], hb, ⟨h0, h1⟩, hw, by omega, A', m', e4⟩
def talC (l : TL) (SA : Option Addr) (SC : Nat) (MA : Option Addr) (MC : Nat) : List Value := [.int .i64 l.k, .string l.n, .int .i64 l.c, .int .i64 (wh l.sum), .int .u64 (wl l.sum), .int .i64 (wh l.wt), .int .u64 (wl l.wt), .slice SA l.smp.length SC, .slice MA l.mem.length MC]
theorem WinAt.at_ {w : World} {B base : Nat} {id : Int} {v : Value} {us : List (TC × TL)} (h : WinAt w B base ⟨id, v, us⟩) {j : Nat} {u : TC × TL} (hu : us[j]? = some u) :
    ∃ b m SA SC MA MC, v = .slice (some ⟨b, 0, none⟩) us.length m ∧ B ≤ b ∧ (∀ x y, (talC u.2 SA SC MA MC)[x]? = some y → w.cell? ⟨b, j * 9 + x, none⟩ = some y) ∧ w.ownsRow base 2 1 (.slice SA u.2.smp.length SC) u.2.smp.length (u.2.smp.map (Value.int .i64)) ∧ w.ownsRow base 9 1 (.slice MA u.2.mem.length MC) u.2.mem.length (u.2.mem.map Value.string) := by
  obtain ⟨A, m, e, _⟩ := own_shape h.1
  have ht := h.2 u (List.mem_of_getElem? hu)
  have hr := h.1
  dsimp only at e hr
  rw [e] at hr
  have hg : ∀ (x : Nat) (y : Value), u.1.cells[x]? = some y → ∃ g, A = some ⟨g, 0, none⟩ ∧ w.cell? ⟨g, j * 9 + x, none⟩ = some y ∧ B ≤ g := fun x y hy =>
    own_cell hr (j * 9 + x) y (flatMap_get TC.cells TC.len _ j u.1 (by rw [List.getElem?_map, hu]; rfl) x y hy)
  obtain ⟨b, e2, _, hb⟩ := hg 0 _ rfl
  obtain ⟨⟨k, n, c, sh, sl, wh0, wl0, sa, sn, sc, ma, mn, mc⟩, l⟩ := u
  obtain ⟨e1, e3, e4, e5, e6, e7, e8, hs, hm⟩ := ht
  dsimp only at e1 e3 e4 e5 e6 e7 e8 hs hm hg
  subst e1 e3 e4 e5 e6 e7 e8
  obtain ⟨SA, SC, q1, _⟩ := own_shape hs
  obtain ⟨MA, MC, q2, _⟩ := own_shape hm
  simp only [TC.sv, TC.mv] at q1 q2
  injection q1 with q3 q4 q5
  injection q2 with q6 q7 q8
  subst q3 q4 q5 q6 q7 q8
  refine ⟨b, m, sa, sc, ma, mc, by rw [e, e2], hb, fun x y hy => ?_, hs, hm⟩
  obtain ⟨g, k1, k2, _⟩ := hg x y hy
  rw [e2] at k1
  injection k1 with k1
  injection k1 with k1
  subst k1
  exact k2
theorem own_int {w : World} {base : Nat} {SA : Option Addr} {SC : Nat} {xs : List Int} (h : w.ownsRow base 2 1 (.slice SA xs.length SC) xs.length (xs.map (Value.int .i64))) {p : Nat} {x : Int} (hx : xs[p]? = some x) :
    ∃ g, SA = some ⟨g, 0, none⟩ ∧ w.cell? ⟨g, p, none⟩ = some (.int .i64 x) := by
  obtain ⟨g, h1, h2, _⟩ := own_cell h p (.int .i64 x) (by rw [List.getElem?_map, hx]; rfl)
  exact ⟨g, h1, h2⟩
theorem own_str {w : World} {base : Nat} {SA : Option Addr} {SC : Nat} {xs : List ByteArray} (h : w.ownsRow base 9 1 (.slice SA xs.length SC) xs.length (xs.map Value.string)) {p : Nat} {x : ByteArray} (hx : xs[p]? = some x) :
    ∃ g, SA = some ⟨g, 0, none⟩ ∧ w.cell? ⟨g, p, none⟩ = some (.string x) := by
  obtain ⟨g, h1, h2, _⟩ := own_cell h p (.string x) (by rw [List.getElem?_map, hx]; rfl)
  exact ⟨g, h1, h2⟩
theorem HB.upd0 {w w' : World} {b : Nat} {T : TypeId} {c : List Value} (h : HB w b T c) (hU : Upd [] w w') : HB w' b T c := h.upd hU (by simp)
/-- The worlds in which only blocks of O have turned. -/
structure WdP (O : Nat → Prop) (w : World) where
  v : World
  h : UpdP O w v
instance (O : Nat → Prop) (w : World) : Inhabited (WdP O w) := ⟨⟨w, UpdP.of0 (Upd.refl [] w)⟩⟩
theorem wdp_sub {O : Nat → Prop} {w w1 : World} (hU : UpdP O w w1) : ∀ w', (∃ p : Wd [] w1, w' = p.v) → ∃ p : WdP O w, w' = p.v := by
  rintro _ ⟨p, rfl⟩
  exact ⟨⟨p.v, hU.then0 p.h⟩, rfl⟩
theorem UpdP.cell {O : Nat → Prop} {w w' : World} (h : UpdP O w w') {p : Addr} {v : Value} (hc : w.cell? p = some v) (hn : ¬ O p.block) : w'.cell? p = some v := by
  obtain ⟨S, h1, h2⟩ := h
  exact h1.cell hc (fun hm => hn (h2 _ hm))
theorem UpdP.hb {O : Nat → Prop} {w w' : World} (h : UpdP O w w') {b : Nat} {T : TypeId} {c : List Value} (hb : HB w b T c) (hn : ¬ O b) : HB w' b T c := by
  obtain ⟨S, h1, h2⟩ := h
  exact hb.upd h1 (fun hm => hn (h2 _ hm))
theorem UpdP.low {O : Nat → Prop} {w0 w w' : World} (h : UpdP O w w') (hU : Upd [] w0 w) (hO : ∀ b, O b → w0.heap.size ≤ b) : Upd [] w0 w' := by
  obtain ⟨S, h1, h2⟩ := h
  exact hU.trans h1 (fun _ h => h) (fun i hi => .inr (hO i (h2 i hi)))
end Go.Proofs.YthbjpoiolmlpmaaGreatDoor
namespace Go.Proofs.YthbjpoiolmlpmaaGreatDoor
open Go.RowKit
theorem rd_evR {w : World} {F : Nat → Prop} {cs : List Value} {x : GT.den gEvent} (h : Rd w F gEvent cs x) :
    ∃ e : Ev, cs = evC e ∧ e = ⟨x.1, x.2.1, x.2.2.1, x.2.2.2.1, x.2.2.2.2.1, x.2.2.2.2.2.1, x.2.2.2.2.2.2.1, x.2.2.2.2.2.2.2.1⟩ ∧ e.name.size ≤ maxLen ∧ e.member.size ≤ maxLen ∧ e.name.size ≤ gEvent.bulk x := by
  obtain ⟨n, k, v, d, m, r, t, ti, u⟩ := x
  obtain ⟨c1, r1, rfl, ⟨rfl, w1⟩, c2, r2, rfl, ⟨rfl, w2⟩, c3, r3, rfl, ⟨rfl, w3⟩, c4, r4, rfl, w4, c5, r5, rfl, ⟨rfl, w5⟩, c6, r6, rfl, ⟨rfl, w6⟩, c7, r7, rfl, w7, c8, r8, rfl, ⟨rfl, w8⟩, rfl⟩ := h
  obtain rfl := w4
  obtain rfl := w7
  exact ⟨⟨n, k, v, d, m, r, t, ti⟩, rfl, rfl, w1, w5, by simp only [GT.bulk]; omega⟩
abbrev gRow : GT := .struct (.cons gI (.cons gEvent .nil))
def evOf (x : GT.den gEvent) : Ev := ⟨x.1, x.2.1, x.2.2.1, x.2.2.2.1, x.2.2.2.2.1, x.2.2.2.2.2.1, x.2.2.2.2.2.2.1, x.2.2.2.2.2.2.2.1⟩
def keOf (y : GT.den gRow) : KE := (y.1, evOf y.2.1)
theorem rd_row {w : World} {F : Nat → Prop} {cs : List Value} {y : GT.den gRow} (h : Rd w F gRow cs y) : cs = rowC (keOf y) ∧ I64 (keOf y).1 := by
  obtain ⟨i, ev, u⟩ := y
  obtain ⟨c1, c2, rfl, ⟨rfl, hi⟩, c3, c4, rfl, h3, rfl⟩ := h
  obtain ⟨e, rfl, rfl, _⟩ := rd_evR h3
  exact ⟨by simp [rowC, keOf, evOf], of_wf_i hi⟩
theorem bulk_row (xs : List (GT.den gRow)) : xs.length ≤ GT.bulk (.slice gRow) xs ∧ ∀ y ∈ xs, (keOf y).2.name.size ≤ GT.bulk (.slice gRow) xs ∧ (keOf y).2.member.size ≤ GT.bulk (.slice gRow) xs := by
  induction xs with
  | nil => simp
  | cons y xs ih =>
    obtain ⟨h1, h2⟩ := ih
    have e : GT.bulk (.slice gRow) (y :: xs) = GT.bulk gRow y + GT.bulk (.slice gRow) xs := by simp [GT.bulk]; omega
    have hy : (keOf y).2.name.size + (keOf y).2.member.size + 1 ≤ GT.bulk gRow y := by
      obtain ⟨i, ⟨n, k, v, d, m, r⟩, u⟩ := y
      simp only [keOf, evOf, GT.bulk]
      omega
    rw [e]
    refine ⟨by simp only [List.length_cons]; omega, fun z hz => ?_⟩
    rcases List.mem_cons.1 hz with rfl | hz
    · omega
    · have := h2 z hz
      omega
theorem rd_rows {w : World} {F : Nat → Prop} {cs : List Value} {xs : GT.den (.slice gRow)} (h : Rd w F (.slice gRow) cs xs) (hb : GT.bulk (.slice gRow) xs ≤ 1048576) :
    ∃ v rows, cs = [v] ∧ RowK w F rowC 9 v rows ∧ okRows rows ∧ ∀ p ∈ rows, I64 p.1 := by
  have hbk := bulk_row xs
  have hm : ∀ y ∈ xs, I64 (keOf y).1 := by
    obtain ⟨A, c, _, _, _, _, h5⟩ := h
    intro y hy
    obtain ⟨i, hi⟩ := List.mem_iff_getElem?.1 hy
    obtain ⟨_, _, _, _, _, _, _, hr⟩ := h5 i y hi
    exact (rd_row hr).2
  obtain ⟨A, c, rfl, h2, h3, h4, h5⟩ := h
  refine ⟨_, xs.map keOf, rfl, ⟨A, c, by rw [List.length_map], by rw [List.length_map]; exact h2, h3, h4, fun i p hp => ?_⟩, ⟨by rw [List.length_map]; omega, fun p hp => ?_⟩, fun p hp => ?_⟩
  · rw [List.getElem?_map] at hp
    cases hx : xs[i]? with
    | none => rw [hx] at hp; cases hp
    | some y =>
      rw [hx] at hp
      obtain rfl := Option.some.inj hp
      obtain ⟨b, o, ecs, hA, hF, _, hc, hr⟩ := h5 i y hx
      obtain ⟨rfl, _⟩ := rd_row hr
      exact ⟨b, o, hA, hF, hc⟩
  · obtain ⟨y, hy, rfl⟩ := List.mem_map.1 hp
    have := hbk.2 y hy
    omega
  · obtain ⟨y, hy, rfl⟩ := List.mem_map.1 hp
    exact hm y hy
end Go.Proofs.YthbjpoiolmlpmaaGreatDoor
