/- agg.New, made, Apply. -/
import Derived.Test.YthbjpoiolmlpmaaGreatDoorAgg
set_option linter.unusedVariables false
set_option linter.unusedSimpArgs false
namespace Go.Proofs.YthbjpoiolmlpmaaGreatDoor
open Go.RowKit
abbrev TAgg : TypeId := 76
abbrev TMet : TypeId := 90
/-- A taker where it lies. -/
structure TR where
  k : Int
  n : ByteArray
  p : Nat
  x : List Nat
  tk : TK
def TR.key (t : TR) : Int × ByteArray := (t.k, t.n)
def TR.val (t : TR) : Value := .iface t.tk.ty (.pointer (some ⟨t.p, 0, none⟩))
structure WR where
  id : Int
  b : Nat
  ts : List TR
def WR.ents (r : WR) : List ((Int × ByteArray) × Value) := r.ts.map fun t => (t.key, t.val)
structure AgL where
  b0 : Nat
  b1 : Nat
  ws : List WR
  gs : List (ByteArray × Int)
  bound : Int
def AgL.opn (A : AgL) : List (Int × Value) := A.ws.map fun r => (r.id, .map (some r.b))
def AgL.gau (A : AgL) : List (ByteArray × Value) := A.gs.map fun g => (g.1, wide g.2)
inductive Tag where
  | no
  | ag
  | op
  | ga
  | win (i : Int)
  | tak (i k : Int) (n : ByteArray)
  | aux (i k : Int) (n : ByteArray)
structure AggAt (w : World) (base a : Nat) (own : Nat → Tag) (A : AgL) : Prop where
  hb : HB w a TAgg [.map (some A.b0), .map (some A.b1), .int .i64 A.bound]
  op : MapAt w (Value.int .i64) A.b0 A.opn
  ga : MapAt w Value.string A.b1 A.gau
  wi : ∀ r ∈ A.ws, MapAt w kvM r.b r.ents
  tk : ∀ r ∈ A.ws, ∀ t ∈ r.ts, TakAt w base t.p t.x t.tk ∧ t.tk.kind = t.k
  oa : own a = .ag
  o0 : own A.b0 = .op
  o1 : own A.b1 = .ga
  ow : ∀ r ∈ A.ws, own r.b = .win r.id
  ot : ∀ r ∈ A.ws, ∀ t ∈ r.ts, own t.p = .tak r.id t.k t.n ∧ ∀ b ∈ t.x, own b = .aux r.id t.k t.n
  lo : ∀ b, own b ≠ .no → base ≤ b ∧ b < w.heap.size
/-- Only blocks that the shard owns may have turned. -/
def UpdO (own : Nat → Tag) (w w' : World) : Prop := ∃ S, Upd S w w' ∧ ∀ b ∈ S, own b ≠ .no
/-- own' says what own says of the blocks that stood; what it says more is new. -/
def Ext (n : Nat) (own own' : Nat → Tag) : Prop := ∀ b, b < n → own' b = own b
theorem UpdO.refl (own : Nat → Tag) (w : World) : UpdO own w w := ⟨[], Upd.refl _ _, fun b hb => by cases hb⟩
theorem UpdO.of0 {own : Nat → Tag} {w w' : World} (h : Upd [] w w') : UpdO own w w' := ⟨[], h, fun b hb => by cases hb⟩
theorem UpdO.trans {own own' : Nat → Tag} {a b c : World} (h : UpdO own a b) (k : UpdO own' b c) (he : Ext a.heap.size own own') : UpdO own a c := by
  obtain ⟨S, h1, h2⟩ := h
  obtain ⟨T, k1, k2⟩ := k
  refine ⟨S ++ T.filter (fun i => decide (i < a.heap.size)), h1.trans k1 (fun i hi => List.mem_append_left _ hi) (fun i hi => ?_), fun i hi => ?_⟩
  · by_cases hl : i < a.heap.size
    · exact .inl (List.mem_append_right _ (List.mem_filter.2 ⟨hi, by simpa using hl⟩))
    · exact .inr (by omega)
  · rw [List.mem_append] at hi
    rcases hi with hi | hi
    · exact h2 i hi
    · obtain ⟨g1, g2⟩ := List.mem_filter.1 hi
      rw [← he i (by simpa using g2)]
      exact k2 i g1
theorem UpdO.size {own : Nat → Tag} {a b : World} (h : UpdO own a b) : a.heap.size ≤ b.heap.size := by
  obtain ⟨S, h, _⟩ := h
  exact h.size
theorem Ext.refl (n : Nat) (own : Nat → Tag) : Ext n own own := fun _ _ => rfl
theorem Ext.trans {n m : Nat} {o1 o2 o3 : Nat → Tag} (h : Ext n o1 o2) (k : Ext m o2 o3) (hm : n ≤ m) : Ext n o1 o3 := fun b hb => (k b (by omega)).trans (h b hb)
theorem AggAt.upd {S : List Nat} {w w' : World} {base a : Nat} {own : Nat → Tag} {A : AgL} (h : AggAt w base a own A) (hU : Upd S w w') (hS : ∀ b ∈ S, own b = .no) : AggAt w' base a own A := by
  have hn : ∀ b, own b ≠ .no → b ∉ S := fun b hb hm => hb (hS b hm)
  refine ⟨h.hb.upd hU (hn _ (by rw [h.oa]; simp)), h.op.upd hU (hn _ (by rw [h.o0]; simp)), h.ga.upd hU (hn _ (by rw [h.o1]; simp)), fun r hr => (h.wi r hr).upd hU (hn _ (by rw [h.ow r hr]; simp)), fun r hr t ht => ?_, h.oa, h.o0, h.o1, h.ow, h.ot, fun b hb => ?_⟩
  · have h1 := h.ot r hr t ht
    exact ⟨(h.tk r hr t ht).1.upd hU (hn _ (by rw [h1.1]; simp)) (fun b hb => hn _ (by rw [h1.2 b hb]; simp)), (h.tk r hr t ht).2⟩
  · have h1 := h.lo b hb
    have h2 := hU.size
    omega
theorem AggAt.upd0 {w w' : World} {base a : Nat} {own : Nat → Tag} {A : AgL} (h : AggAt w base a own A) (hU : Upd [] w w') : AggAt w' base a own A := h.upd hU (fun b hb => by cases hb)
/-- Nothing yet. -/
def ag0 (b : Nat) : AgL := ⟨b, b + 1, [], [], -9223372036854775808⟩
def own0 (b : Nat) : Nat → Tag := fun i => if i = b then .op else if i = b + 1 then .ga else if i = b + 2 then .ag else .no
set_option maxRecDepth 20000 in
theorem new_calls (w : World) : Calls Tryz.prog 15 #[] w fun e w' => e = .returned (.pointer (some ⟨w.heap.size + 2, 0, none⟩)) ∧ AggAt w' w.heap.size (w.heap.size + 2) (own0 w.heap.size) (ag0 w.heap.size) ∧ Upd [] w w' := by
  have hmm := @run_makeMap Tryz.prog
  go_enter Tryz.func15, Tryz.ntmps15
  go_wp2
  go_ret
  have h1 := MapAt.new w (Value.int .i64)
  have h2 := MapAt.new (w.alloc (.map #[] 0)) Value.string
  rw [show (w.alloc (.map #[] 0)).heap.size = w.heap.size + 1 by simp] at h2
  have h3 := HB.new ((w.alloc (.map #[] 0)).alloc (.map #[] 0)) TAgg [.map (some w.heap.size), .map (some (w.heap.size + 1)), .int .i64 (-9223372036854775808)]
  rw [show ((w.alloc (.map #[] 0)).alloc (.map #[] 0)).heap.size = w.heap.size + 2 by simp] at h3
  refine ⟨rfl, ⟨h3, (h1.upd ((Upd.refl [] _).alloc _) (by simp)).upd ((Upd.refl [] _).alloc _) (by simp), h2.upd ((Upd.refl [] _).alloc _) (by simp), (fun r hr => by cases hr), (fun r hr => by cases hr), ?_, ?_, ?_, (fun r hr => by cases hr), (fun r hr => by cases hr), fun b hb => ?_⟩, (((Upd.refl _ _).alloc _).alloc _).alloc _⟩
  · simp [own0]
  · simp [own0, ag0]
  · simp [own0, ag0]
  · unfold own0 at hb
    simp
    by_cases e1 : b = w.heap.size
    · omega
    · by_cases e2 : b = w.heap.size + 1
      · omega
      · by_cases e3 : b = w.heap.size + 2
        · omega
        · simp [e1, e2, e3] at hb
theorem map_ne (b : Nat) (W : World) : (binOp .neq 73 (.map (some b)) (.map none)).run Tryz.prog W = .ok (.bool true) W := by kernel_rfl
theorem made_calls {w : World} {a b0 : Nat} {v1 v2 : Value} (h : HB w a TAgg [.map (some b0), v1, v2]) : Calls Tryz.prog 35 #[.pointer (some ⟨a, 0, none⟩)] w fun e w' => e = .returned (.bool true) ∧ w' = w := by
  have c0 := h.cell (j := 0) rfl
  have hne := map_ne b0
  go_enter Tryz.func35, Tryz.ntmps35
  go_wp2
  go_ret
  exact ⟨rfl, rfl⟩
theorem find_split {α κ : Type} [DecidableEq κ] (f : α → κ) (x : κ) : ∀ l : List α, x ∉ l.map f ∨ ∃ l1 r l2, l = l1 ++ r :: l2 ∧ f r = x ∧ x ∉ l1.map f
  | [] => .inl (by simp)
  | y :: l => by
    by_cases h : f y = x
    · exact .inr ⟨[], y, l, rfl, h, by simp⟩
    · rcases find_split f x l with k | ⟨l1, r, l2, rfl, h1, h2⟩
      · exact .inl (by simp; exact ⟨fun e => h e.symm, by simpa using k⟩)
      · exact .inr ⟨y :: l1, r, l2, rfl, h1, by simp; exact ⟨fun e => h e.symm, by simpa using h2⟩⟩
theorem look_at {α κ : Type} [DecidableEq κ] (f : α → κ) (g : α → Value) (l1 l2 : List α) (r : α) (h : f r ∉ l1.map f) : look (f r) ((l1 ++ r :: l2).map fun r => (f r, g r)) = some (g r) := by
  unfold look
  have key : ∀ (l1 : List α) (i : Nat), f r ∉ l1.map f → (place (f r) ((l1 ++ r :: l2).map fun r => (f r, g r)) i).map (·.2) = some (g r) := by
    intro l1
    induction l1 with
    | nil => intro i _; simp [place]
    | cons y l ih =>
      intro i h
      simp only [List.map_cons, List.mem_cons, not_or] at h
      simp only [List.cons_append, List.map_cons, place]
      rw [if_neg h.1]
      exact ih (i + 1) h.2
  exact key l1 0 h
theorem look_not {α κ : Type} [DecidableEq κ] (f : α → κ) (g : α → Value) (l : List α) (x : κ) (h : x ∉ l.map f) : look x (l.map fun r => (f r, g r)) = none := by
  rw [look_none, List.map_map]
  exact h
theorem opn_ids (A : AgL) : A.opn.map (·.1) = A.ws.map WR.id := by unfold AgL.opn; rw [List.map_map]; rfl
theorem ents_keys (r : WR) : r.ents.map (·.1) = r.ts.map TR.key := by unfold WR.ents; rw [List.map_map]; rfl
theorem split_ne {α κ : Type} (f : α → κ) {l1 l2 : List α} {r : α} (h : ((l1 ++ r :: l2).map f).Nodup) : ∀ y, y ∈ l1 ∨ y ∈ l2 → f y ≠ f r := by
  rw [List.map_append, List.map_cons, List.nodup_append] at h
  obtain ⟨_, h2, h3⟩ := h
  rw [List.nodup_cons] at h2
  intro y hy e
  rcases hy with hy | hy
  · exact h3 (f y) (List.mem_map.2 ⟨y, hy, rfl⟩) (f r) (by simp) e
  · exact h2.1 (List.mem_map.2 ⟨y, hy, e⟩)
/-- A window that is new. -/
theorem AggAt.addW {w w' : World} {base a bw : Nat} {own : Nat → Tag} {A : AgL} {id : Int} (h : AggAt w base a own A) (hop : MapAt w' (Value.int .i64) A.b0 (A.opn ++ [(id, .map (some bw))])) (hmb : MapAt w' kvM bw []) (hU : Upd [A.b0] w w')
    (hbw : w.heap.size ≤ bw) (hbase : base ≤ w.heap.size) : AggAt w' base a (fun b => if b = bw then .win id else own b) { A with ws := A.ws ++ [⟨id, bw, []⟩] } := by
  have hbl := hmb.lt
  have hold : ∀ b, own b ≠ .no → b ≠ bw := fun b hb e => by have := (h.lo b hb).2; omega
  have hk : ∀ b, own b ≠ .no → (if b = bw then Tag.win id else own b) = own b := fun b hb => if_neg (hold b hb)
  have hn : ∀ b, own b ≠ .no → own b ≠ .op → b ∉ [A.b0] := fun b _ hb hm => by
    simp at hm
    subst hm
    exact hb h.o0
  refine ⟨h.hb.upd hU (hn _ (by rw [h.oa]; simp) (by rw [h.oa]; simp)), by simpa [AgL.opn] using hop, h.ga.upd hU (hn _ (by rw [h.o1]; simp) (by rw [h.o1]; simp)), fun r hr => ?_, fun r hr t ht => ?_, ?_, ?_, ?_, fun r hr => ?_, fun r hr t ht => ?_, fun b hb => ?_⟩
  · rcases List.mem_append.1 hr with hr | hr
    · exact (h.wi r hr).upd hU (hn _ (by rw [h.ow r hr]; simp) (by rw [h.ow r hr]; simp))
    · simp at hr; subst hr; exact hmb
  · rcases List.mem_append.1 hr with hr | hr
    · have h1 := h.ot r hr t ht
      exact ⟨(h.tk r hr t ht).1.upd hU (hn _ (by rw [h1.1]; simp) (by rw [h1.1]; simp)) (fun b hb => hn _ (by rw [h1.2 b hb]; simp) (by rw [h1.2 b hb]; simp)), (h.tk r hr t ht).2⟩
    · simp at hr; subst hr; cases ht
  · show (if a = bw then Tag.win id else own a) = _
    rw [hk _ (by rw [h.oa]; simp)]; exact h.oa
  · show (if A.b0 = bw then Tag.win id else own A.b0) = _
    rw [hk _ (by rw [h.o0]; simp)]; exact h.o0
  · show (if A.b1 = bw then Tag.win id else own A.b1) = _
    rw [hk _ (by rw [h.o1]; simp)]; exact h.o1
  · show (if r.b = bw then Tag.win id else own r.b) = _
    rcases List.mem_append.1 hr with hr | hr
    · rw [hk _ (by rw [h.ow r hr]; simp)]; exact h.ow r hr
    · simp at hr; subst hr; exact if_pos rfl
  · rcases List.mem_append.1 hr with hr | hr
    · have h1 := h.ot r hr t ht
      refine ⟨?_, fun b hb => ?_⟩
      · show (if t.p = bw then Tag.win id else own t.p) = _
        rw [hk _ (by rw [h1.1]; simp)]; exact h1.1
      · show (if b = bw then Tag.win id else own b) = _
        rw [hk _ (by rw [h1.2 b hb]; simp)]; exact h1.2 b hb
    · simp at hr; subst hr; cases ht
  · by_cases e : b = bw
    · subst e; omega
    · have h1 := h.lo b (by simpa [e] using hb)
      have := hU.size
      omega
/-- A taker that is new. -/
theorem AggAt.addT {w w' : World} {base a : Nat} {own : Nat → Tag} {b0 b1 : Nat} {l1 l2 : List WR} {r : WR} {gs : List (ByteArray × Int)} {bd : Int} {t : TR} (h : AggAt w base a own ⟨b0, b1, l1 ++ r :: l2, gs, bd⟩)
    (hm : MapAt w' kvM r.b (r.ents ++ [(t.key, t.val)])) (ht : TakAt w' base t.p t.x t.tk) (hkd : t.tk.kind = t.k) (hU : Upd [r.b] w w') (hp : w.heap.size ≤ t.p) (hx : ∀ b ∈ t.x, w.heap.size ≤ b ∧ b ≠ t.p) (hbase : base ≤ w.heap.size) :
    AggAt w' base a (fun b => if b = t.p then .tak r.id t.k t.n else if b ∈ t.x then .aux r.id t.k t.n else own b) ⟨b0, b1, l1 ++ { r with ts := r.ts ++ [t] } :: l2, gs, bd⟩ := by
  obtain ⟨own', ho'⟩ : ∃ o : Nat → Tag, o = (fun b => if b = t.p then .tak r.id t.k t.n else if b ∈ t.x then .aux r.id t.k t.n else own b) := ⟨_, rfl⟩
  rw [← ho']
  have hk : ∀ b, own b ≠ .no → own' b = own b := fun b hb => by
    have h1 := (h.lo b hb).2
    rw [ho']
    show (if b = t.p then Tag.tak r.id t.k t.n else if b ∈ t.x then .aux r.id t.k t.n else own b) = own b
    rw [if_neg (by omega), if_neg (fun hb2 => by have := (hx b hb2).1; omega)]
  have hr0 : r ∈ l1 ++ r :: l2 := by simp
  have hn : ∀ b, own b ≠ .no → own b ≠ .win r.id → b ∉ [r.b] := fun b _ hb hm => by
    simp at hm
    subst hm
    exact hb (h.ow r hr0)
  have hids := h.op.nodup
  rw [opn_ids] at hids
  have hne := split_ne WR.id hids
  have hmem : ∀ y, y ∈ l1 ++ { r with ts := r.ts ++ [t] } :: l2 → (y ∈ l1 ++ r :: l2 ∧ y.id ≠ r.id) ∨ y = { r with ts := r.ts ++ [t] } := fun y hy => by
    rcases List.mem_append.1 hy with hy | hy
    · exact .inl ⟨List.mem_append_left _ hy, hne y (.inl hy)⟩
    · rcases List.mem_cons.1 hy with hy | hy
      · exact .inr hy
      · exact .inl ⟨List.mem_append_right _ (List.mem_cons_of_mem _ hy), hne y (.inr hy)⟩
  have hop := h.op.upd hU (hn _ (by rw [show own b0 = _ from h.o0]; simp) (by rw [show own b0 = _ from h.o0]; simp))
  refine ⟨h.hb.upd hU (hn _ (by rw [h.oa]; simp) (by rw [h.oa]; simp)), by simpa [AgL.opn] using hop, h.ga.upd hU (hn _ (by rw [show own b1 = _ from h.o1]; simp) (by rw [show own b1 = _ from h.o1]; simp)), fun y hy => ?_, fun y hy s hs => ?_, ?_, ?_, ?_, fun y hy => ?_, fun y hy s hs => ?_, fun b hb => ?_⟩
  · rcases hmem y hy with ⟨h1, h2⟩ | rfl
    · exact (h.wi y h1).upd hU (hn _ (by rw [h.ow y h1]; simp) (by rw [h.ow y h1]; simpa using h2))
    · simpa [WR.ents] using hm
  · have old : ∀ y ∈ l1 ++ r :: l2, ∀ s ∈ y.ts, TakAt w' base s.p s.x s.tk ∧ s.tk.kind = s.k := fun y hy s hs => by
      have h1 := h.ot y hy s hs
      exact ⟨(h.tk y hy s hs).1.upd hU (hn _ (by rw [h1.1]; simp) (by rw [h1.1]; simp)) (fun b hb => hn _ (by rw [h1.2 b hb]; simp) (by rw [h1.2 b hb]; simp)), (h.tk y hy s hs).2⟩
    rcases hmem y hy with ⟨h1, _⟩ | rfl
    · exact old y h1 s hs
    · rcases List.mem_append.1 hs with hs | hs
      · exact old r hr0 s hs
      · simp at hs; subst hs; exact ⟨ht, hkd⟩
  · rw [hk _ (by rw [h.oa]; simp)]; exact h.oa
  · rw [hk _ (by rw [show own b0 = _ from h.o0]; simp)]; exact h.o0
  · rw [hk _ (by rw [show own b1 = _ from h.o1]; simp)]; exact h.o1
  · rcases hmem y hy with ⟨h1, _⟩ | rfl
    · rw [hk _ (by rw [h.ow y h1]; simp)]; exact h.ow y h1
    · show own' r.b = _
      rw [hk _ (by rw [h.ow r hr0]; simp)]; exact h.ow r hr0
  · have old : ∀ y ∈ l1 ++ r :: l2, ∀ s ∈ y.ts, own' s.p = .tak y.id s.k s.n ∧ ∀ b ∈ s.x, own' b = .aux y.id s.k s.n := fun y hy s hs => by
      have h1 := h.ot y hy s hs
      exact ⟨by rw [hk _ (by rw [h1.1]; simp)]; exact h1.1, fun b hb => by rw [hk _ (by rw [h1.2 b hb]; simp)]; exact h1.2 b hb⟩
    rcases hmem y hy with ⟨h1, _⟩ | rfl
    · exact old y h1 s hs
    · rcases List.mem_append.1 hs with hs | hs
      · exact old r hr0 s hs
      · simp at hs
        subst hs
        refine ⟨by rw [ho']; exact if_pos rfl, fun b hb => ?_⟩
        rw [ho']
        show (if b = s.p then Tag.tak r.id s.k s.n else if b ∈ s.x then .aux r.id s.k s.n else own b) = _
        rw [if_neg (hx b hb).2, if_pos hb]
  · have h2 := ht.lt
    by_cases e : b = t.p
    · subst e; omega
    · by_cases e2 : b ∈ t.x
      · have := (hx b e2).1; have := h2.2 b e2; omega
      · rw [ho'] at hb
        have h1 := h.lo b (by simpa [e, e2] using hb)
        have := hU.size
        omega
/-- A taker that has taken. -/
theorem AggAt.setT {w w' : World} {base a : Nat} {own : Nat → Tag} {b0 b1 : Nat} {l1 l2 : List WR} {id : Int} {bw : Nat} {m1 m2 : List TR} {gs : List (ByteArray × Int)} {bd : Int} {t : TR} {x' : List Nat} {tk' : TK}
    (h : AggAt w base a own ⟨b0, b1, l1 ++ ⟨id, bw, m1 ++ t :: m2⟩ :: l2, gs, bd⟩) (ht : TakAt w' base t.p x' tk') (hkd : tk'.kind = t.k) (hty : tk'.ty = t.tk.ty) (hU : Upd (t.p :: t.x) w w') (hx : ∀ b ∈ x', b ∈ t.x ∨ w.heap.size ≤ b) (hbase : base ≤ w.heap.size) :
    AggAt w' base a (fun b => if b ∈ x' then .aux id t.k t.n else own b) ⟨b0, b1, l1 ++ ⟨id, bw, m1 ++ { t with x := x', tk := tk' } :: m2⟩ :: l2, gs, bd⟩ := by
  obtain ⟨own', ho'⟩ : ∃ o : Nat → Tag, o = (fun b => if b ∈ x' then .aux id t.k t.n else own b) := ⟨_, rfl⟩
  rw [← ho']
  have hr0 : (⟨id, bw, m1 ++ t :: m2⟩ : WR) ∈ l1 ++ ⟨id, bw, m1 ++ t :: m2⟩ :: l2 := by simp
  have ht0 : t ∈ m1 ++ t :: m2 := by simp
  have hot := h.ot _ hr0 t ht0
  have hk : ∀ b, own b ≠ .no → own b ≠ .aux id t.k t.n → own' b = own b := fun b hb hb2 => by
    rw [ho']
    exact if_neg (fun hm => by
      rcases hx b hm with h1 | h1
      · exact hb2 (hot.2 b h1)
      · have := (h.lo b hb).2; omega)
  have hn : ∀ b, own b ≠ .tak id t.k t.n → own b ≠ .aux id t.k t.n → b ∉ t.p :: t.x := fun b h1 h2 hm => by
    rcases List.mem_cons.1 hm with rfl | hm
    · exact h1 hot.1
    · exact h2 (hot.2 b hm)
  have hids := h.op.nodup
  rw [opn_ids] at hids
  have hne := split_ne WR.id hids
  have hkeys := (h.wi _ hr0).nodup
  rw [ents_keys] at hkeys
  have hnk := split_ne TR.key hkeys
  have hmem : ∀ y, y ∈ l1 ++ (⟨id, bw, m1 ++ { t with x := x', tk := tk' } :: m2⟩ : WR) :: l2 → (y ∈ l1 ++ ⟨id, bw, m1 ++ t :: m2⟩ :: l2 ∧ y.id ≠ id) ∨ y = ⟨id, bw, m1 ++ { t with x := x', tk := tk' } :: m2⟩ := fun y hy => by
    rcases List.mem_append.1 hy with hy | hy
    · exact .inl ⟨List.mem_append_left _ hy, hne y (.inl hy)⟩
    · rcases List.mem_cons.1 hy with hy | hy
      · exact .inr hy
      · exact .inl ⟨List.mem_append_right _ (List.mem_cons_of_mem _ hy), hne y (.inr hy)⟩
  have hmemt : ∀ s, s ∈ m1 ++ { t with x := x', tk := tk' } :: m2 → (s ∈ m1 ++ t :: m2 ∧ s.key ≠ t.key) ∨ s = { t with x := x', tk := tk' } := fun s hs => by
    rcases List.mem_append.1 hs with hs | hs
    · exact .inl ⟨List.mem_append_left _ hs, hnk s (.inl hs)⟩
    · rcases List.mem_cons.1 hs with hs | hs
      · exact .inr hs
      · exact .inl ⟨List.mem_append_right _ (List.mem_cons_of_mem _ hs), hnk s (.inr hs)⟩
  have hkey : ∀ {s : TR}, s.key ≠ t.key → ¬ (s.k = t.k ∧ s.n = t.n) := fun {s} h1 h2 => h1 (by unfold TR.key; rw [h2.1, h2.2])
  -- another taker: its blocks have another tag
  have oth : ∀ y ∈ l1 ++ ⟨id, bw, m1 ++ t :: m2⟩ :: l2, ∀ s ∈ y.ts, (y.id ≠ id ∨ s.key ≠ t.key) → (TakAt w' base s.p s.x s.tk ∧ s.tk.kind = s.k) ∧ (own' s.p = .tak y.id s.k s.n ∧ ∀ b ∈ s.x, own' b = .aux y.id s.k s.n) := fun y hy s hs hd => by
    have h1 := h.ot y hy s hs
    have hd2 : ¬ (y.id = id ∧ s.k = t.k ∧ s.n = t.n) := fun h2 => by
      rcases hd with hd | hd
      · exact hd h2.1
      · exact hkey hd h2.2
    refine ⟨⟨(h.tk y hy s hs).1.upd hU (hn _ (by rw [h1.1]; simpa using hd2) (by rw [h1.1]; simp)) (fun b hb => hn _ (by rw [h1.2 b hb]; simp) (by rw [h1.2 b hb]; simpa using hd2)), (h.tk y hy s hs).2⟩, ?_, fun b hb => ?_⟩
    · rw [hk _ (by rw [h1.1]; simp) (by rw [h1.1]; simp)]; exact h1.1
    · rw [hk _ (by rw [h1.2 b hb]; simp) (by rw [h1.2 b hb]; simpa using hd2)]; exact h1.2 b hb
  have hop := h.op.upd hU (hn _ (by rw [show own b0 = _ from h.o0]; simp) (by rw [show own b0 = _ from h.o0]; simp))
  refine ⟨h.hb.upd hU (hn _ (by rw [h.oa]; simp) (by rw [h.oa]; simp)), by simpa [AgL.opn] using hop, h.ga.upd hU (hn _ (by rw [show own b1 = _ from h.o1]; simp) (by rw [show own b1 = _ from h.o1]; simp)), fun y hy => ?_, fun y hy s hs => ?_, ?_, ?_, ?_, fun y hy => ?_, fun y hy s hs => ?_, fun b hb => ?_⟩
  · rcases hmem y hy with ⟨h1, h2⟩ | rfl
    · exact (h.wi y h1).upd hU (hn _ (by rw [h.ow y h1]; simp) (by rw [h.ow y h1]; simp))
    · have := (h.wi _ hr0).upd hU (hn _ (by rw [h.ow _ hr0]; simp) (by rw [h.ow _ hr0]; simp))
      simpa [WR.ents, TR.key, TR.val, hty] using this
  · rcases hmem y hy with ⟨h1, h2⟩ | rfl
    · exact (oth y h1 s hs (.inl h2)).1
    · rcases hmemt s hs with ⟨g1, g2⟩ | rfl
      · exact (oth _ hr0 s g1 (.inr g2)).1
      · exact ⟨ht, hkd⟩
  · rw [hk _ (by rw [h.oa]; simp) (by rw [h.oa]; simp)]; exact h.oa
  · rw [hk _ (by rw [show own b0 = _ from h.o0]; simp) (by rw [show own b0 = _ from h.o0]; simp)]; exact h.o0
  · rw [hk _ (by rw [show own b1 = _ from h.o1]; simp) (by rw [show own b1 = _ from h.o1]; simp)]; exact h.o1
  · rcases hmem y hy with ⟨h1, _⟩ | rfl
    · rw [hk _ (by rw [h.ow y h1]; simp) (by rw [h.ow y h1]; simp)]; exact h.ow y h1
    · have := h.ow _ hr0
      rw [hk _ (by rw [this]; simp) (by rw [this]; simp)]; exact this
  · rcases hmem y hy with ⟨h1, h2⟩ | rfl
    · exact (oth y h1 s hs (.inl h2)).2
    · rcases hmemt s hs with ⟨g1, g2⟩ | rfl
      · exact (oth _ hr0 s g1 (.inr g2)).2
      · refine ⟨?_, fun b hb => ?_⟩
        · show own' t.p = _
          rw [hk _ (by rw [hot.1]; simp) (by rw [hot.1]; simp)]; exact hot.1
        · rw [ho']; exact if_pos hb
  · have hs := hU.size
    by_cases e : b ∈ x'
    · have h2 := ht.lt.2 b e
      rcases hx b e with h1 | h1
      · have := h.lo b (by rw [hot.2 b h1]; simp); omega
      · omega
    · rw [ho'] at hb
      have h1 := h.lo b (by simpa [e] using hb)
      omega
end Go.Proofs.YthbjpoiolmlpmaaGreatDoor
