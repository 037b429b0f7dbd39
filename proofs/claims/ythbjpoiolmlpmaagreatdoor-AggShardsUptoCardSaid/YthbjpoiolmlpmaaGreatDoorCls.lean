/- agg.Close. -/
import Derived.Test.YthbjpoiolmlpmaaGreatDoorTals
import Derived.Test.YthbjpoiolmlpmaaGreatDoorAgSh
set_option linter.unusedVariables false
set_option linter.unusedSimpArgs false
namespace Go.Proofs.YthbjpoiolmlpmaaGreatDoor
open Go.RowKit
abbrev TWin : TypeId := 50
/-- A window that was told: its id, its tallies' slice, each tally in cells and as plain data. -/
structure WCL where
  id : Int
  tv : Value
  us : List (TC × TL)
def WCL.cells (c : WCL) : List Value := [.int .i64 c.id, c.tv]
def WCL.pl (c : WCL) : Int × List TL := (c.id, c.us.map (·.2))
def WCL.bl (c : WCL) : List Nat := c.tv.ownBlock.toList ++ c.us.flatMap fun u => u.1.bl
theorem WCL.len (c : WCL) : c.cells.length = 2 := rfl
/-- A told window in memory. -/
def WinAt (w : World) (B base : Nat) (c : WCL) : Prop := w.ownsRow B TTal 9 c.tv c.us.length ((c.us.map (·.1)).flatMap TC.cells) ∧ ∀ u ∈ c.us, TlAt w base base u.1 u.2
/-- What Close told. -/
structure WinsAt (w : World) (B base : Nat) (v : Value) (cw : List WCL) : Prop where
  row : w.ownsRow B TWin 2 v cw.length (cw.flatMap WCL.cells)
  wins : ∀ c ∈ cw, WinAt w B base c
  nd : (cw.flatMap WCL.bl).Nodup
theorem TlAt.mono {w : World} {base B base' B' : Nat} {u : TC} {l : TL} (h : TlAt w base B u l) (h1 : base' ≤ base) (h2 : B' ≤ B) : TlAt w base' B' u l :=
  ⟨h.k, h.n, h.c, h.sh, h.sl, h.wh', h.wl', own_mono h.smp h1, own_mono h.mem h2⟩
theorem WinAt.upd {S : List Nat} {w w' : World} {B base : Nat} {c : WCL} (h : WinAt w B base c) (hU : Upd S w w') (hS : ∀ b ∈ c.bl, b ∉ S) : WinAt w' B base c := by
  refine ⟨own_upd h.1 hU (fun g hg => hS g (List.mem_append_left _ (by simp [hg]))), fun u hu => (h.2 u hu).upd hU (fun g hg => hS g ?_) (fun g hg => hS g ?_)⟩
  · exact List.mem_append_right _ (List.mem_flatMap.2 ⟨u, hu, List.mem_append_left _ (by simp [hg])⟩)
  · exact List.mem_append_right _ (List.mem_flatMap.2 ⟨u, hu, List.mem_append_right _ (by simp [hg])⟩)
theorem WinsAt.upd {S : List Nat} {w w' : World} {B base : Nat} {v : Value} {cw : List WCL} (h : WinsAt w B base v cw) (hU : Upd S w w') (h1 : ∀ g, v.ownBlock = some g → g ∉ S) (h2 : ∀ b ∈ cw.flatMap WCL.bl, b ∉ S) : WinsAt w' B base v cw :=
  ⟨own_upd h.row hU h1, fun c hc => (h.wins c hc).upd hU (fun b hb => h2 b (List.mem_flatMap.2 ⟨c, hc, hb⟩)), h.nd⟩
theorem WinAt.lt {w : World} {B base : Nat} {c : WCL} (h : WinAt w B base c) (hb : base ≤ B) : ∀ b ∈ c.bl, base ≤ b ∧ b < w.heap.size := by
  intro b hb2
  rcases List.mem_append.1 hb2 with hm | hm
  · have := h.1.lt b (by simpa using hm)
    omega
  · obtain ⟨u, hu, hm⟩ := List.mem_flatMap.1 hm
    rcases List.mem_append.1 hm with hm | hm
    · exact (h.2 u hu).smp.lt b (by simpa using hm)
    · exact (h.2 u hu).mem.lt b (by simpa using hm)
theorem infoWin : (Tryz.prog.info? 50).map (fun i => (i.zero, i.size, i.bytes)) = some (some (.agg #[.int .i64 0, .slice none 0 0]), 2, 32) := by kernel_rfl
theorem cells2 {c : WCL} {w : World} {B base : Nat} (h : WinAt w B base c) : ∀ u ∈ c.cells, u.oneCell' = true := by
  intro u hu
  simp only [WCL.cells, List.mem_cons, List.not_mem_nil, or_false] at hu
  rcases hu with rfl | rfl
  · rfl
  · obtain ⟨A, c, e, _⟩ := own_shape h.1
    rw [e]
    rfl
/-- The round's relation of Close. -/
structure ClsInv (w : World) (base a : Nat) (own : Nat → Tag) (b0 b1 : Nat) (E : List KE) (g : GV) (id : Int) (ids : List Int) (vi : Value) (va : Value) (j : Nat) (wr : World) (cw : List WCL) (own' : Nat → Tag) (ws : List WR) (gs : List (ByteArray × Int)) (g' : GV) : Prop where
  fj : j ≤ ids.length
  ag : AggAt wr base a own' ⟨b0, b1, ws, gs, id⟩
  fi : (ws.map WR.id).Perm (ids.drop j)
  me : ∀ r ∈ ws, MeansT E r.id r.pl.2
  fg : ∀ x, gl x gs = g' x
  te : Tells E g (ids.take j) (cw.map WCL.pl) g'
  le : ∀ i ∈ ids.take j, i ≤ id
  wi : WinsAt wr w.heap.size base va cw
  out : ∀ b ∈ cw.flatMap WCL.bl, own' b = .no
  fv : wr.ownsRow w.heap.size 2 1 vi ids.length (ids.map (Value.int .i64))
  sub : ∀ b, own' b ≠ .no → own' b = own b
  up : UpdO own w wr
theorem lessW_sub {own : Nat → Tag} {i : Int} {b : Nat} (h : lessW own i b ≠ .no) : lessW own i b = own b := by
  unfold lessW at h ⊢
  split
  · rename_i hc
    rw [if_pos hc] at h
    exact absurd rfl h
  · rfl
theorem lessW_no {own : Nat → Tag} {i : Int} {b : Nat} (h : own b = .no ∨ (own b).win? = some i) : lessW own i b = .no := by
  unfold lessW
  rcases h with h | h
  · rw [h]; split <;> rfl
  · rw [if_pos h]
theorem WinAt.ne_row {w : World} {B base base' n : Nat} {c : WCL} {va : Value} {xs : List Value} (h : WinAt w B base c) (hr : w.ownsRow base' TWin 2 va n xs) : ∀ b ∈ c.bl, b ∉ va.ownBlock.toList := by
  intro b hb
  rcases List.mem_append.1 hb with hm | hm
  · exact own_ne2 hr h.1 (by decide) b (by simpa using hm)
  · obtain ⟨u, hu, hm⟩ := List.mem_flatMap.1 hm
    rcases List.mem_append.1 hm with hm | hm
    · exact own_ne2 hr (h.2 u hu).smp (by decide) b (by simpa using hm)
    · exact own_ne2 hr (h.2 u hu).mem (by decide) b (by simpa using hm)
theorem gAfter_next {E : List KE} {r : WR} (h : MeansT E r.id r.pl.2) {gs : List (ByteArray × Int)} {g' : GV} (hg : ∀ x, gl x gs = g' x) (x : ByteArray) : gAfter gs r.ts x = gNext E g' r.id x := by
  rw [h.next]
  have e : r.pl.2.find? (fun q => decide (q.1 = (2, x))) = (r.ts.find? fun t => t.k = 2 ∧ t.n = x).map fun t => (t.key, t.tk) := by
    show (r.ts.map fun t => (t.key, t.tk)).find? _ = _
    rw [List.find?_map]
    congr 2
    funext t
    simp [TR.key]
  rw [e]
  unfold gAfter
  cases r.ts.find? fun t => t.k = 2 ∧ t.n = x with
  | none => exact hg x
  | some t =>
    show some _ = some _
    rw [hg]
/-- A window told: the round's relation goes on. -/
theorem ClsInv.next {w : World} {base a : Nat} {own : Nat → Tag} {b0 b1 : Nat} {E : List KE} {g : GV} {id : Int} {ids : List Int} {vi va : Value} {j : Nat} {wr : World} {cw : List WCL} {own' : Nat → Tag} {gs : List (ByteArray × Int)} {g' : GV} {l1 l2 : List WR} {r : WR}
    (h : ClsInv w base a own b0 b1 E g id ids vi va j wr cw own' (l1 ++ r :: l2) gs g') (hlo : ∀ b, own b ≠ .no → b < w.heap.size) (hbase : base ≤ w.heap.size) (hj : ids[j]? = some r.id) (hle : r.id ≤ id)
    {wa : World} {tv : Value} {dn : List (TR × TC)} {gs2 : List (ByteArray × Int)} {S : List Nat} (ht : TalOut wr base a b0 b1 r.ts gs id tv wa dn gs2 S)
    {wb : World} {v1 : Value} (hrow : wb.ownsRow w.heap.size TWin 2 v1 (cw.length + 1) (cw.flatMap WCL.cells ++ [.int .i64 r.id, tv])) (hU1 : Upd va.ownBlock.toList wa wb)
    {wc : World} (hop : MapAt wc (Value.int .i64) b0 ((l1 ++ l2).map wE)) (hU2 : Upd [b0] wb wc) :
    ∃ g2, ClsInv w base a own b0 b1 E g id ids vi v1 (j + 1) wc (cw ++ [⟨r.id, tv, dn.map fun q => (q.2, q.1.tk.tl q.1.key ((gl q.1.n gs).getD 0))⟩]) (lessW own' r.id) (l1 ++ l2) gs2 g2 := by
  obtain ⟨c, hc⟩ : ∃ c : WCL, c = ⟨r.id, tv, dn.map fun q => (q.2, q.1.tk.tl q.1.key ((gl q.1.n gs).getD 0))⟩ := ⟨_, rfl⟩
  rw [← hc]
  have hr0 : r ∈ l1 ++ r :: l2 := by simp
  have hlt : ∀ b, own' b ≠ .no → b < w.heap.size := fun b hb => hlo b (by rw [← h.sub b hb]; exact hb)
  have hhi : ∀ b, w.heap.size ≤ b → own' b = .no := fun b hb => Classical.byContradiction fun hc => by have := hlt b hc; omega
  have hwr := h.up.size
  have hb1 : own' b1 = .ga := h.ag.o1
  have hb0 : own' b0 = .op := h.ag.o0
  have hb0l : b0 < w.heap.size := hlt b0 (by rw [hb0]; simp)
  have hb1l : b1 < w.heap.size := hlt b1 (by rw [hb1]; simp)
  have hot := h.ag.ot r hr0
  have hS : ∀ b ∈ S, own' b = .ga ∨ (own' b).win? = some r.id := fun b hb => by
    rcases ht.sS b hb with e | ⟨t, ht1, ht2⟩
    · rw [e]; exact .inl hb1
    · rw [(hot t ht1).2 b ht2]; exact .inr rfl
  have hSn : ∀ b ∈ S, own' b ≠ .no := fun b hb e => by
    rcases hS b hb with k | k
    · rw [e] at k; cases k
    · rw [e] at k; cases k
  have hva := own_low h.wi.row
  have hU1' := hU1
  have hUt : Upd (S ++ va.ownBlock.toList ++ [b0]) wr wc :=
    (ht.up.trans hU1 (U := S ++ va.ownBlock.toList) (fun i hi => List.mem_append_left _ hi) (fun i hi => .inl (List.mem_append_right _ hi))).trans hU2 (fun i hi => List.mem_append_left _ hi) (fun i hi => .inl (List.mem_append_right _ hi))
  have hSall : ∀ b ∈ S ++ va.ownBlock.toList ++ [b0], own' b = .no ∨ own' b = .op ∨ own' b = .ga ∨ (own' b).win? = some r.id := fun b hb => by
    rcases List.mem_append.1 hb with hb | hb
    · rcases List.mem_append.1 hb with hb | hb
      · rcases hS b hb with k | k
        · exact .inr (.inr (.inl k))
        · exact .inr (.inr (.inr k))
      · exact .inl (hhi b (hva b hb))
    · simp at hb; subst hb; exact .inr (.inl hb0)
  have hkeys : (r.ts.map TR.key).Nodup := by
    have := (h.ag.wi r hr0).nodup
    rwa [ents_keys] at this
  have hja : j < ids.length := (List.getElem?_eq_some_iff.1 hj).1
  have hjd : ids.drop j = r.id :: ids.drop (j + 1) := by
    rw [List.drop_eq_getElem_cons hja, (List.getElem?_eq_some_iff.1 hj).2]
  have hjt : ids.take (j + 1) = ids.take j ++ [r.id] := by rw [List.take_add_one, hj]; rfl
  have hcbl : ∀ b ∈ c.bl, (wr.heap.size ≤ b ∨ (own' b).win? = some r.id) := fun b hb => by
    rw [hc] at hb
    rcases List.mem_append.1 hb with hm | hm
    · exact .inl (own_low ht.row b hm)
    · obtain ⟨u, hu, hm⟩ := List.mem_flatMap.1 hm
      obtain ⟨q, hq, rfl⟩ := List.mem_map.1 hu
      have hq0 := ht.tl q hq
      rcases List.mem_append.1 hm with hm | hm
      · have hx := hq0.2 b (by simpa using hm)
        exact .inr (by rw [(hot q.1 (ht.pm.subset (List.mem_map_of_mem hq))).2 b hx]; rfl)
      · exact .inl (own_low hq0.1.mem b hm)
  have hwa : WinAt wa w.heap.size base c := by
    rw [hc]
    refine ⟨?_, fun u hu => ?_⟩
    · have e1 : ((dn.map fun q => (q.2, q.1.tk.tl q.1.key ((gl q.1.n gs).getD 0))).map (·.1)) = dn.map (·.2) := by rw [List.map_map]; rfl
      show wa.ownsRow w.heap.size TTal 9 tv (dn.map _).length (List.flatMap TC.cells (List.map _ _))
      rw [e1, List.length_map]
      exact own_mono ht.row hwr
    · obtain ⟨q, hq, rfl⟩ := List.mem_map.1 hu
      exact (ht.tl q hq).1.mono (Nat.le_refl _) (by omega)
  have hrowa := own_upd h.wi.row ht.up (fun g hg hm => hSn g hm (hhi g (hva g (by simp [hg]))))
  have hold : ∀ b ∈ cw.flatMap WCL.bl, b < wr.heap.size := fun b hb => by
    obtain ⟨d, hd, hm⟩ := List.mem_flatMap.1 hb
    exact ((h.wi.wins d hd).lt hbase b hm).2
  refine ⟨gNext E g' r.id, hja, h.ag.dropW hop ?_ hUt hSall, ?_, fun y hy => h.me y ?_, fun x => ?_, ?_, fun i hi => ?_, ⟨?_, fun d hd => ?_, ?_⟩, fun b hb => ?_, ?_, fun b hb => ?_, ?_⟩
  · exact (ht.ga.upd hU1 (fun hm => by have := hva b1 hm; omega)).upd hU2 (by simp; intro e; rw [e, hb0] at hb1; cases hb1)
  · have h1 := h.fi
    rw [hjd] at h1
    refine List.Perm.cons_inv (a := r.id) (List.Perm.trans ?_ h1)
    rw [List.map_append, List.map_append, List.map_cons]
    exact List.perm_middle.symm
  · rcases List.mem_append.1 hy with hy | hy
    · exact List.mem_append_left _ hy
    · exact List.mem_append_right _ (List.mem_cons_of_mem _ hy)
  · rw [ht.gl, gAfter_perm ht.pm hkeys x]
    exact gAfter_next (h.me r hr0) h.fg x
  · rw [hjt, List.map_append]
    have hT : Told E g' r.id (c.us.map (·.2)) := by
      refine (h.me r hr0).told (g := g') ?_ ?_
      · rw [hc]
        have e1 : (dn.map fun q => (q.2, q.1.tk.tl q.1.key ((gl q.1.n gs).getD 0))).map (·.2) = (dn.map (·.1)).map fun t => t.tk.tl t.key ((g' t.n).getD 0) := by
          rw [List.map_map, List.map_map]
          refine List.map_congr_left fun q _ => ?_
          simp only [Function.comp]
          rw [h.fg]
        have e2 : r.pl.2.map (fun q => q.2.tl q.1 ((g' q.1.2).getD 0)) = r.ts.map fun t => t.tk.tl t.key ((g' t.n).getD 0) := by
          show (r.ts.map fun t => (t.key, t.tk)).map _ = _
          rw [List.map_map]
          rfl
        show (List.map _ (dn.map _)).Perm _
        rw [e1, e2]
        exact ht.pm.map _
      · rw [hc]
        have e1 : ((dn.map fun q => (q.2, q.1.tk.tl q.1.key ((gl q.1.n gs).getD 0))).map (·.2)).map TL.met = dn.map fun q => ((q.2.k, q.2.n) : Met) := by
          rw [List.map_map, List.map_map]
          refine List.map_congr_left fun q hq => ?_
          have k := (ht.tl q hq).1
          show (q.1.key.1, q.1.key.2) = (q.2.k, q.2.n)
          rw [show q.2.k = q.1.key.1 from k.k, show q.2.n = q.1.key.2 from k.n]
        show (List.map TL.met (List.map _ (dn.map _))).Pairwise _
        rw [e1]
        exact ht.rise
    have e : [c].map WCL.pl = [(r.id, c.us.map (·.2))] := by rw [hc]; rfl
    rw [e]
    exact h.te.snoc hT
  · rw [hjt] at hi
    rcases List.mem_append.1 hi with hi | hi
    · exact h.le i hi
    · simp at hi; rw [hi]; exact hle
  · rw [List.flatMap_append, List.length_append]
    have e : [c].flatMap WCL.cells = [.int .i64 r.id, tv] := by rw [hc]; rfl
    rw [e]
    exact own_upd hrow hU2 (fun g hg hm => by have := own_low hrow g (by simp [hg]); simp at hm; omega)
  · rcases List.mem_append.1 hd with hd | hd
    · have h1 := h.wi.wins d hd
      refine h1.upd hUt (fun b hb hm => ?_)
      have hn := h.out b (List.mem_flatMap.2 ⟨d, hd, hb⟩)
      rcases List.mem_append.1 hm with hm | hm
      · rcases List.mem_append.1 hm with hm | hm
        · exact hSn b hm hn
        · exact h1.ne_row h.wi.row b hb hm
      · simp at hm; rw [hm, hb0] at hn; cases hn
    · simp at hd
      subst hd
      refine (hwa.upd hU1 (hwa.ne_row hrowa)).upd hU2 (fun b hb hm => ?_)
      simp at hm
      rcases hcbl b hb with k | k
      · omega
      · rw [hm, hb0] at k; cases k
  · rw [List.flatMap_append]
    refine nodup_snoc h.wi.nd ?_ (fun b hb hm => ?_)
    · have e : [c].flatMap WCL.bl = c.bl := by simp
      rw [e]
      have e2 : c.us.flatMap (fun u => u.1.bl) = dn.flatMap fun q => q.2.bl := by rw [hc]; simp [List.flatMap_map]
      refine nodup_snoc (by cases c.tv.ownBlock <;> simp) (by rw [e2]; exact ht.nd) (fun b hb hm => ?_)
      obtain ⟨u, hu, hm⟩ := List.mem_flatMap.1 hm
      rcases List.mem_append.1 hm with hm | hm
      · exact own_ne2 hwa.1 (hwa.2 u hu).smp (by decide) b (by simpa using hm) hb
      · exact own_ne2 hwa.1 (hwa.2 u hu).mem (by decide) b (by simpa using hm) hb
    · have hn := h.out b hb
      have hl := hold b hb
      rcases hcbl b (by simpa using hm) with k | k
      · omega
      · rw [hn] at k; cases k
  · rw [List.flatMap_append] at hb
    rcases List.mem_append.1 hb with hb | hb
    · exact lessW_no (.inl (h.out b hb))
    · rcases hcbl b (by simpa using hb) with k | k
      · exact lessW_no (.inl (hhi b (by omega)))
      · exact lessW_no (.inr k)
  · refine own_upd h.fv hUt (fun g hg hm => ?_)
    have hg1 := own_low h.fv g (by simp [hg])
    rcases List.mem_append.1 hm with hm | hm
    · rcases List.mem_append.1 hm with hm | hm
      · exact hSn g hm (hhi g hg1)
      · exact own_ne2 h.wi.row h.fv (by decide) g hg hm
    · simp at hm; omega
  · have h1 := lessW_sub hb
    rw [h1]
    exact h.sub b (by rw [← h1]; exact hb)
  · obtain ⟨T, hT1, hT2⟩ := h.up
    refine ⟨T ++ (S ++ [b0]), hT1.trans hUt (fun i hi => List.mem_append_left _ hi) (fun i hi => ?_), fun b hb => ?_⟩
    · rcases List.mem_append.1 hi with hi | hi
      · rcases List.mem_append.1 hi with hi | hi
        · exact .inl (by simp [hi])
        · exact .inr (hva i hi)
      · exact .inl (by simp at hi; simp [hi])
    · rcases List.mem_append.1 hb with hb | hb
      · exact hT2 b hb
      · have hn : own' b ≠ .no := by
          rcases List.mem_append.1 hb with hb | hb
          · exact hSn b hb
          · simp at hb; rw [hb, hb0]; simp
        rw [← h.sub b hn]
        exact hn
/-- At the end: what Close gives. -/
theorem ClsInv.fin {w w0 : World} {base a M : Nat} {own : Nat → Tag} {b0 b1 : Nat} {A : AgE} {id : Int} {ids : List Int} {vi va : Value} {j : Nat} {wr : World} {cw : List WCL} {own' : Nat → Tag} {ws : List WR} {gs : List (ByteArray × Int)} {g' : GV}
    (h : ClsInv w0 base a own b0 b1 A.E A.g id ids vi va j wr cw own' ws gs g') (ho : A.ok M) (hi : OpenIds A.E ids) (hd : ∀ i ∈ ids.drop j, id < i) (hb : ¬ id ≤ A.bd) (hw : w.heap.size ≤ w0.heap.size) (hU : UpdO own w w0) (hbase : base ≤ w.heap.size) (hlo : ∀ b, own b ≠ .no → b < w.heap.size) :
    ∃ A', Closes A id (cw.map WCL.pl) A' ∧ WinsAt wr w.heap.size base va cw ∧ ∃ O', ShAt wr base a O' A' M ∧ (∀ b, O' b → own b ≠ .no) ∧ (∀ b ∈ cw.flatMap WCL.bl, ¬ O' b) ∧ UpdP (fun b => own b ≠ .no) w wr := by
  have hc : Closes A id (cw.map WCL.pl) ⟨A.E.filter fun p => decide (id < p.1), g', id⟩ := by
    unfold Closes
    rw [if_neg hb]
    exact ⟨ids.take j, g', idsTo_take hi.rise hi.mem h.le hd, h.te, rfl⟩
  have hws : ∀ r ∈ ws, id < r.id := fun r hr => hd r.id (h.fi.subset (List.mem_map_of_mem hr))
  refine ⟨_, hc, ⟨own_mono h.wi.row hw, fun c hcm => ⟨own_mono (h.wi.wins c hcm).1 hw, (h.wi.wins c hcm).2⟩, h.wi.nd⟩, fun b => own' b ≠ .no, ⟨own', _, fun b => Iff.rfl, h.ag, ?_, h.fg, rfl, AgE.ok_close ho hc⟩, fun b hb2 => by rw [← h.sub b hb2]; exact hb2, fun b hb2 hn => hn (h.out b hb2), ?_⟩
  · have e : (⟨b0, b1, ws, gs, id⟩ : AgL).pl.ws = ws.map WR.pl := rfl
    rw [e]
    have hids : (ws.map WR.pl).map (·.1) = ws.map WR.id := by rw [List.map_map]; rfl
    have hidn : (ws.map WR.id).Nodup := by
      refine h.fi.nodup_iff.2 ?_
      exact List.Sublist.nodup (List.drop_sublist _ _) (hi.rise.imp (fun h => by omega))
    refine Means.of (by rw [hids]; exact hidn) (fun i => ?_) (fun q hq => ?_)
    · rw [hids, h.fi.mem_iff]
      constructor
      · intro hm
        obtain ⟨p, hp, e⟩ := (hi.mem i).1 (List.mem_of_mem_drop hm)
        exact ⟨p, List.mem_filter.2 ⟨hp, by simpa [e] using hd i hm⟩, e⟩
      · rintro ⟨p, hp, rfl⟩
        obtain ⟨h1, h2⟩ := List.mem_filter.1 hp
        have h3 := (hi.mem p.1).2 ⟨p, h1, rfl⟩
        rw [← List.take_append_drop j ids] at h3
        rcases List.mem_append.1 h3 with k | k
        · have := h.le _ k
          simp at h2
          omega
        · exact k
    · obtain ⟨r, hr, rfl⟩ := List.mem_map.1 hq
      have hm := h.me r hr
      have hlt := hws r hr
      have hf : ∀ m, (A.E.filter fun p => decide (id < p.1)).filter (inM r.id m) = A.E.filter (inM r.id m) := fun m => by
        rw [List.filter_filter]
        refine List.filter_congr fun p _ => ?_
        by_cases hc : p.1 = r.id
        · have : decide (id < p.1) = true := by rw [hc]; simpa using hlt
          simp [this]
        · simp [inM, hc]
      refine ⟨hm.tnd, fun m => ?_, fun q hq => ?_⟩
      · rw [hm.mets m]
        constructor
        · rintro ⟨p, hp, g⟩
          exact ⟨p, List.mem_filter.2 ⟨hp, by rw [(inM_iff.1 g).1]; simpa using hlt⟩, g⟩
        · rintro ⟨p, hp, g⟩
          exact ⟨p, (List.mem_filter.1 hp).1, g⟩
      · rw [hm.tk q hq]
        unfold tkOf
        rw [show r.pl.1 = r.id from rfl, hf]
  · obtain ⟨S, h1, h2⟩ := hU
    obtain ⟨T, k1, k2⟩ := h.up
    exact ⟨S ++ T, h1.trans k1 (fun i hi => List.mem_append_left _ hi) (fun i hi => .inl (List.mem_append_right _ hi)), fun b hb => (List.mem_append.1 hb).elim (h2 b) (k2 b)⟩
end Go.Proofs.YthbjpoiolmlpmaaGreatDoor
