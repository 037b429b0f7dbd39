/- A told list whose tallies are written into, one by one. -/
import Derived.Test.YthbjpoiolmlpmaaGreatDoorAgLaw5
set_option linter.unusedVariables false
set_option linter.unusedSimpArgs false
namespace Go.Proofs.YthbjpoiolmlpmaaGreatDoor
open Go.RowKit
theorem nodup_swap {α : Type} {X Y Y' Z : List α} (h : (X ++ (Y ++ Z)).Nodup) (hn : Y'.Nodup) (hb : ∀ b ∈ Y', b ∈ Y ∨ (b ∉ X ∧ b ∉ Z)) : (X ++ (Y' ++ Z)).Nodup := by
  rw [List.nodup_append, List.nodup_append] at *
  obtain ⟨h1, ⟨h2, h3, h4⟩, h5⟩ := h
  refine ⟨h1, ⟨hn, h3, fun a ha b hb2 e => ?_⟩, fun a ha b hb2 e => ?_⟩
  · subst e
    rcases hb a ha with h | h
    · exact h4 a h a hb2 rfl
    · exact h.2 hb2
  · subst e
    rcases List.mem_append.1 hb2 with h | h
    · rcases hb a h with k | k
      · exact h5 a ha a (List.mem_append_left _ k) rfl
      · exact k.1 ha
    · exact h5 a ha a (List.mem_append_right _ h) rfl
theorem split_at {α : Type} {l : List α} {i : Nat} {a : α} (h : l[i]? = some a) : ∃ l1 l2, l = l1 ++ a :: l2 ∧ l1.length = i ∧ ∀ b, l.set i b = l1 ++ b :: l2 := by
  obtain ⟨hi, rfl⟩ := List.getElem?_eq_some_iff.1 h
  refine ⟨l.take i, l.drop (i + 1), by simp, by rw [List.length_take]; omega, fun b => ?_⟩
  rw [List.set_eq_take_append_cons_drop, if_pos hi]
/-- A tally of a told list written anew. -/
theorem WinsAt.put {wp wr : World} {B base : Nat} {v : Value} {cw : List WCL} (h : WinsAt wp B base v cw) (hbase : base ≤ B) {i k : Nat} {c : WCL} {u u' : TC × TL} (hc : cw[i]? = some c) (hu : c.us[k]? = some u)
    (hR : wr.ownsRow B TTal 9 c.tv c.us.length (((c.us.set k u').map (·.1)).flatMap TC.cells)) (hT : TlAt wr base base u'.1 u'.2) (hU : Upd (c.tv.ownBlock.toList ++ u.1.bl) wp wr) (hb : ∀ b ∈ u'.1.bl, b ∈ u.1.bl ∨ wp.heap.size ≤ b) (hn : u'.1.bl.Nodup) :
    WinsAt wr B base v (cw.set i ⟨c.id, c.tv, c.us.set k u'⟩) := by
  have hrow := h.row
  have hwins := h.wins
  have hnd := h.nd
  obtain ⟨c1, c2, rfl, _, hs1⟩ := split_at hc
  obtain ⟨id, tv, us⟩ := c
  dsimp only at hu hR hU ⊢
  obtain ⟨a, b, rfl, _, hs2⟩ := split_at hu
  rw [hs1, hs2]
  rw [hs2] at hR
  have hlt : ∀ x ∈ (c1 ++ ⟨id, tv, a ++ u :: b⟩ :: c2).flatMap WCL.bl, x < wp.heap.size := fun x hx => by
    obtain ⟨d, hd, hx⟩ := List.mem_flatMap.1 hx
    exact ((hwins d hd).lt hbase x hx).2
  have hne := (hwins _ (List.mem_append_right c1 (List.mem_cons_self ..))).ne_row hrow
  rw [List.flatMap_append, List.flatMap_cons] at hnd hlt
  have hbl : WCL.bl ⟨id, tv, a ++ u :: b⟩ = (tv.ownBlock.toList ++ a.flatMap fun u => u.1.bl) ++ (u.1.bl ++ b.flatMap fun u => u.1.bl) := by
    simp [WCL.bl, List.flatMap_append]
  have hbl' : WCL.bl ⟨id, tv, a ++ u' :: b⟩ = (tv.ownBlock.toList ++ a.flatMap fun u => u.1.bl) ++ (u'.1.bl ++ b.flatMap fun u => u.1.bl) := by
    simp [WCL.bl, List.flatMap_append]
  rw [hbl] at hnd hlt hne
  have hsub : ∀ x ∈ tv.ownBlock.toList ++ u.1.bl, x ∈ (tv.ownBlock.toList ++ a.flatMap fun u => u.1.bl) ++ (u.1.bl ++ b.flatMap fun u => u.1.bl) := fun x hx => by
    simp only [List.mem_append] at hx ⊢
    rcases hx with hx | hx
    · exact .inl (.inl hx)
    · exact .inr (.inl hx)
  have hnd2 := hnd
  simp only [List.append_assoc] at hnd2
  have hkeep : ∀ (Y : List Nat) (hY : ∀ x ∈ Y, x ∈ c1.flatMap WCL.bl ∨ x ∈ (a.flatMap fun u => u.1.bl) ∨ x ∈ (b.flatMap fun u => u.1.bl) ∨ x ∈ c2.flatMap WCL.bl), ∀ x ∈ Y, x ∉ tv.ownBlock.toList ++ u.1.bl := by
    intro Y hY x hx hm
    simp only [List.nodup_append, List.mem_append] at hnd2
    rcases List.mem_append.1 hm with hm | hm <;> rcases hY x hx with k | k | k | k <;> grind
  refine ⟨?_, fun d hd => ?_, ?_⟩
  · have e : (c1 ++ ⟨id, tv, a ++ u' :: b⟩ :: c2).flatMap WCL.cells = (c1 ++ ⟨id, tv, a ++ u :: b⟩ :: c2).flatMap WCL.cells := by
      simp [WCL.cells]
    have e2 : (c1 ++ (⟨id, tv, a ++ u' :: b⟩ : WCL) :: c2).length = (c1 ++ (⟨id, tv, a ++ u :: b⟩ : WCL) :: c2).length := by simp
    rw [e, e2]
    exact own_upd hrow hU (fun g hg hm => hne g (hsub g hm) (by simp [hg]))
  · rcases List.mem_append.1 hd with hd | hd
    · exact (hwins d (List.mem_append_left _ hd)).upd hU (hkeep d.bl (fun x hx => .inl (List.mem_flatMap.2 ⟨d, hd, hx⟩)))
    · rcases List.mem_cons.1 hd with rfl | hd
      · have hl : (a ++ u' :: b).length = (a ++ u :: b).length := by simp
        refine ⟨by rw [hl]; exact hR, fun x hx => ?_⟩
        have hold := (hwins _ (List.mem_append_right c1 (List.mem_cons_self ..))).2
        dsimp only at hold hx
        have key : ∀ y ∈ a ++ b, TlAt wr base base y.1 y.2 := fun y hy => by
          have hy2 : y ∈ a ++ u :: b := by
            simp only [List.mem_append, List.mem_cons] at hy ⊢
            rcases hy with hy | hy
            · exact .inl hy
            · exact .inr (.inr hy)
          have hk := hkeep y.1.bl (fun z hz => by
            rcases List.mem_append.1 hy with hy | hy
            · exact .inr (.inl (List.mem_flatMap.2 ⟨y, hy, hz⟩))
            · exact .inr (.inr (.inl (List.mem_flatMap.2 ⟨y, hy, hz⟩))))
          exact (hold y hy2).upd hU (fun g hg => hk g (List.mem_append_left _ (by simp [hg]))) (fun g hg => hk g (List.mem_append_right _ (by simp [hg])))
        rcases List.mem_append.1 hx with hx | hx
        · exact key x (List.mem_append_left _ hx)
        · rcases List.mem_cons.1 hx with rfl | hx
          · exact hT
          · exact key x (List.mem_append_right _ hx)
      · exact (hwins d (List.mem_append_right _ (List.mem_cons_of_mem _ hd))).upd hU (hkeep d.bl (fun x hx => .inr (.inr (.inr (List.mem_flatMap.2 ⟨d, hd, hx⟩)))))
  · rw [List.flatMap_append, List.flatMap_cons, hbl']
    have e : ∀ Y : List Nat, c1.flatMap WCL.bl ++ (((tv.ownBlock.toList ++ a.flatMap fun u => u.1.bl) ++ (Y ++ b.flatMap fun u => u.1.bl)) ++ c2.flatMap WCL.bl) = (c1.flatMap WCL.bl ++ (tv.ownBlock.toList ++ a.flatMap fun u => u.1.bl)) ++ (Y ++ ((b.flatMap fun u => u.1.bl) ++ c2.flatMap WCL.bl)) := fun Y => by simp only [List.append_assoc]
    rw [e] at hnd ⊢
    refine nodup_swap hnd hn (fun x hx => ?_)
    rcases hb x hx with k | k
    · exact .inl k
    · refine .inr ⟨fun hm => ?_, fun hm => ?_⟩
      · have := hlt x (by simp only [List.mem_append] at hm ⊢; grind)
        omega
      · have := hlt x (by simp only [List.mem_append] at hm ⊢; grind)
        omega
theorem told_lens {E : List KE} (hE : ∀ p ∈ E, chk p.2 = 0) {g : GV} {id : Int} {T : List TL} (h : Told E g id T) {t : TL} (ht : t ∈ T) : t.smp.length ≤ E.length ∧ t.mem.length ≤ E.length := by
  have e := h.eq t ht
  have hok := tkOf_ok hE id t.met
  have hl := List.length_filter_le (inM id t.met) E
  generalize (E.filter (inM id t.met)).length = N at *
  have e1 : t.smp = (tkOf E id t.met).smp := by rw [e]; rfl
  have e2 : t.mem = (tkOf E id t.met).mem := by rw [e]; rfl
  rw [e1, e2]
  generalize tkOf E id t.met = tk at *
  cases tk with
  | cnt n s => exact ⟨by simp [TK.smp], by simp [TK.mem]⟩
  | gau n st v => exact ⟨by simp [TK.smp], by simp [TK.mem]⟩
  | tim s sw xs =>
    refine ⟨?_, by simp [TK.mem]⟩
    have h1 : xs.length ≤ N := hok.1
    have : (TK.tim s sw xs).smp.length = xs.length := sortI_len xs
    omega
  | set n ms =>
    refine ⟨by simp [TK.smp], ?_⟩
    have h1 : ms.length ≤ N := hok.2
    have : (TK.set n ms).mem.length = ms.length := (sortS_perm0 ms).length_eq
    omega
/-! ### One tally, in cells -/
def tcX (l : TL) (xs : List Int) (ms : List ByteArray) (SA : Option Addr) (SC : Nat) (MA : Option Addr) (MC : Nat) : TC := ⟨l.k, l.n, l.c, wh l.sum, wl l.sum, wh l.wt, wl l.wt, SA, xs.length, SC, MA, ms.length, MC⟩
def tlX (l : TL) (xs : List Int) (ms : List ByteArray) : TL := { l with smp := xs, mem := ms }
theorem TlAt.form {w : World} {base B : Nat} {u : TC × TL} (h : TlAt w base B u.1 u.2) : ∃ SA SC MA MC, u = (tcX u.2 u.2.smp u.2.mem SA SC MA MC, u.2) ∧ w.ownsRow base 2 1 (.slice SA u.2.smp.length SC) u.2.smp.length (u.2.smp.map (Value.int .i64)) ∧ w.ownsRow B 9 1 (.slice MA u.2.mem.length MC) u.2.mem.length (u.2.mem.map Value.string) := by
  obtain ⟨⟨k, n, c, sh, sl, wh0, wl0, sa, sn, sc, ma, mn, mc⟩, l⟩ := u
  obtain ⟨e1, e3, e4, e5, e6, e7, e8, hs, hm⟩ := h
  dsimp only at e1 e3 e4 e5 e6 e7 e8 hs hm ⊢
  subst e1 e3 e4 e5 e6 e7 e8
  obtain ⟨SA, SC, q1, _⟩ := own_shape hs
  obtain ⟨MA, MC, q2, _⟩ := own_shape hm
  simp only [TC.sv, TC.mv] at q1 q2
  injection q1 with q3 q4 q5
  injection q2 with q6 q7 q8
  subst q3 q4 q5 q6 q7 q8
  exact ⟨sa, sc, ma, mc, rfl, hs, hm⟩
theorem flat_cell {α : Type} {enc : α → List Value} {k : Nat} (hk : ∀ x, (enc x).length = k) (h0 : 0 < k) : ∀ (l : List α) (i j : Nat) (a b : α) (v : Value), l[i]? = some a → j < k → enc b = (enc a).set j v → (l.flatMap enc).set (i * k + j) v = (l.set i b).flatMap enc
  | [], i, j, a, b, v, h, _, _ => by simp at h
  | x :: l, 0, j, a, b, v, h, hj, he => by
    simp at h
    subst h
    rw [List.set_cons_zero, List.flatMap_cons, List.flatMap_cons, Nat.zero_mul, Nat.zero_add, List.set_append_left _ _ (by rw [hk]; exact hj), he]
  | x :: l, i + 1, j, a, b, v, h, hj, he => by
    have ih := flat_cell hk h0 l i j a b v (by simpa using h) hj he
    have e : (i + 1) * k + j - k = i * k + j := by rw [Nat.succ_mul]; omega
    rw [List.set_cons_succ, List.flatMap_cons, List.flatMap_cons, List.set_append_right _ _ (by rw [hk, Nat.succ_mul]; omega), hk, e, ih]
structure TInv (wp : World) (B : Nat) (tv : Value) (tcs : List TC) (r : Nat) (l : TL) (sb mb : List Nat) (wr : World) (xs : List Int) (ms : List ByteArray) (SA : Option Addr) (SC : Nat) (MA : Option Addr) (MC : Nat) : Prop where
  rl : r < tcs.length
  row : wr.ownsRow B TTal 9 tv tcs.length ((tcs.set r (tcX l xs ms SA SC MA MC)).flatMap TC.cells)
  smp : wr.ownsRow B 2 1 (.slice SA xs.length SC) xs.length (xs.map (Value.int .i64))
  mem : wr.ownsRow B 9 1 (.slice MA ms.length MC) ms.length (ms.map Value.string)
  up : Upd (tv.ownBlock.toList ++ (sb ++ mb)) wp wr
  sblk : ∀ g, (Value.slice SA xs.length SC).ownBlock = some g → g ∈ sb ∨ wp.heap.size ≤ g
  mblk : ∀ g, (Value.slice MA ms.length MC).ownBlock = some g → g ∈ mb ∨ wp.heap.size ≤ g
theorem TInv.lift {wp : World} {B r SC MC : Nat} {tv : Value} {tcs : List TC} {l : TL} {sb mb : List Nat} {wr wr' : World} {xs : List Int} {ms : List ByteArray} {SA MA : Option Addr} (h : TInv wp B tv tcs r l sb mb wr xs ms SA SC MA MC) (hU : Upd [] wr wr') : TInv wp B tv tcs r l sb mb wr' xs ms SA SC MA MC :=
  ⟨h.rl, own_upd h.row hU (by simp), own_upd h.smp hU (by simp), own_upd h.mem hU (by simp), h.up.then0 hU, h.sblk, h.mblk⟩
theorem TInv.cell {wp : World} {B r SC MC : Nat} {tv : Value} {tcs : List TC} {l : TL} {sb mb : List Nat} {wr : World} {xs : List Int} {ms : List ByteArray} {SA MA : Option Addr} (h : TInv wp B tv tcs r l sb mb wr xs ms SA SC MA MC) {tb n m : Nat} (hv : tv = .slice (some ⟨tb, 0, none⟩) n m) (j : Nat) (u : Value) (hj : (tcX l xs ms SA SC MA MC).cells[j]? = some u) : wr.cell? ⟨tb, r * 9 + j, none⟩ = some u := by
  have hr := h.row
  obtain ⟨A, c, e, _⟩ := own_shape hr
  rw [e] at hr
  obtain ⟨g, e2, hc, _⟩ := own_cell hr (r * 9 + j) u (flatMap_get TC.cells TC.len _ r (tcX l xs ms SA SC MA MC) (by rw [List.getElem?_set_self h.rl]) j u hj)
  rw [hv, e2] at e
  injection e with e
  injection e with e
  injection e with e
  rw [e]
  exact hc
theorem TInv.free {wp : World} {B r SC MC : Nat} {tv : Value} {tcs : List TC} {l : TL} {sb mb : List Nat} {wr : World} {xs : List Int} {ms : List ByteArray} {SA MA : Option Addr} (h : TInv wp B tv tcs r l sb mb wr xs ms SA SC MA MC) {tb n m : Nat} (hv : tv = .slice (some ⟨tb, 0, none⟩) n m) (j : Nat) : wr.frozen? ⟨tb, j, none⟩ = false := by
  have hr := h.row
  obtain ⟨A, c, e, _⟩ := own_shape hr
  rw [e] at hr
  rw [hv] at e
  injection e with e e1 e2
  subst e
  exact own_free hr j
/-- A sample written. -/
theorem TInv.setS {wp : World} {B r SC MC : Nat} {tv : Value} {tcs : List TC} {l : TL} {sb mb : List Nat} {wr : World} {xs : List Int} {ms : List ByteArray} {g : Nat} {MA : Option Addr} (h : TInv wp B tv tcs r l sb mb wr xs ms (some ⟨g, 0, none⟩) SC MA MC) (p : Nat) (x : Int) (hp : p < xs.length) :
    TInv wp B tv tcs r l sb mb (wr.setCell ⟨g, p, none⟩ (.int .i64 x)) (xs.set p x) ms (some ⟨g, 0, none⟩) SC MA MC := by
  have hU : Upd [g] wr (wr.setCell ⟨g, p, none⟩ (.int .i64 x)) := (Upd.refl [g] wr).setCell (.inl (by simp)) _
  have n1 := own_ne2 h.smp h.row (by decide)
  have n2 := own_ne2 h.smp h.mem (by decide)
  have hs := own_set h.smp (j := p) (by simpa using hp) (.int .i64 x)
  refine ⟨h.rl, ?_, ?_, own_upd h.mem hU (fun y hy hm => n2 y hy (by simp at hm; subst hm; simp [Value.ownBlock])), ?_, ?_, h.mblk⟩
  · have e : tcX l (xs.set p x) ms (some ⟨g, 0, none⟩) SC MA MC = tcX l xs ms (some ⟨g, 0, none⟩) SC MA MC := by unfold tcX; rw [List.length_set]
    rw [e]
    exact own_upd h.row hU (fun y hy hm => n1 y hy (by simp at hm; subst hm; simp [Value.ownBlock]))
  · rw [List.length_set, List.map_set]
    exact hs
  · refine h.up.trans hU (fun _ h => h) (fun y hy => ?_)
    simp at hy
    subst hy
    rcases h.sblk y rfl with k | k
    · exact .inl (by simp [k])
    · exact .inr k
  · rw [List.length_set]
    exact h.sblk
theorem TInv.setM {wp : World} {B r SC MC : Nat} {tv : Value} {tcs : List TC} {l : TL} {sb mb : List Nat} {wr : World} {xs : List Int} {ms : List ByteArray} {g : Nat} {SA : Option Addr} (h : TInv wp B tv tcs r l sb mb wr xs ms SA SC (some ⟨g, 0, none⟩) MC) (p : Nat) (x : ByteArray) (hp : p < ms.length) :
    TInv wp B tv tcs r l sb mb (wr.setCell ⟨g, p, none⟩ (.string x)) xs (ms.set p x) SA SC (some ⟨g, 0, none⟩) MC := by
  have hU : Upd [g] wr (wr.setCell ⟨g, p, none⟩ (.string x)) := (Upd.refl [g] wr).setCell (.inl (by simp)) _
  have n1 := own_ne2 h.mem h.row (by decide)
  have n2 := own_ne2 h.mem h.smp (by decide)
  have hs := own_set h.mem (j := p) (by simpa using hp) (.string x)
  refine ⟨h.rl, ?_, own_upd h.smp hU (fun y hy hm => n2 y hy (by simp at hm; subst hm; simp [Value.ownBlock])), ?_, ?_, h.sblk, ?_⟩
  · have e : tcX l xs (ms.set p x) SA SC (some ⟨g, 0, none⟩) MC = tcX l xs ms SA SC (some ⟨g, 0, none⟩) MC := by unfold tcX; rw [List.length_set]
    rw [e]
    exact own_upd h.row hU (fun y hy hm => n1 y hy (by simp at hm; subst hm; simp [Value.ownBlock]))
  · rw [List.length_set, List.map_set]
    exact hs
  · refine h.up.trans hU (fun _ h => h) (fun y hy => ?_)
    simp at hy
    subst hy
    rcases h.mblk y rfl with k | k
    · exact .inl (by simp [k])
    · exact .inr k
  · rw [List.length_set]
    exact h.mblk
/-- A sample behind the others, and the slice into its cell. -/
theorem TInv.appS {wp : World} {B r SC SC' MC : Nat} {tv : Value} {tcs : List TC} {l : TL} {sb mb : List Nat} {wr w1 : World} {xs : List Int} {ms : List ByteArray} {SA SA' MA : Option Addr} (h : TInv wp B tv tcs r l sb mb wr xs ms SA SC MA MC) {tb n m : Nat} (hv : tv = .slice (some ⟨tb, 0, none⟩) n m) (x : Int)
    (hown : w1.ownsRow B 2 1 (.slice SA' (xs.length + 1) SC') (xs.length + 1) (xs.map (Value.int .i64) ++ [.int .i64 x])) (hU : Upd (Value.slice SA xs.length SC).ownBlock.toList wr w1)
    (hat : (Value.slice SA' (xs.length + 1) SC').ownBlock = (Value.slice SA xs.length SC).ownBlock ∨ ∃ b, (Value.slice SA' (xs.length + 1) SC').ownBlock = some b ∧ wp.heap.size ≤ b) :
    TInv wp B tv tcs r l sb mb (w1.setCell ⟨tb, r * 9 + 7, none⟩ (.slice SA' (xs.length + 1) SC')) (xs ++ [x]) ms SA' SC' MA MC := by
  have n1 := own_ne2 h.smp h.row (by decide)
  have n2 := own_ne2 h.smp h.mem (by decide)
  have hr1 := own_upd h.row hU (fun y hy hm => n1 y hy hm)
  have hm1 := own_upd h.mem hU (fun y hy hm => n2 y hy hm)
  have e0 : (xs ++ [x]).length = xs.length + 1 := by simp
  have hU2 : Upd [tb] w1 (w1.setCell ⟨tb, r * 9 + 7, none⟩ (.slice SA' (xs.length + 1) SC')) := (Upd.refl [tb] w1).setCell (.inl (by simp)) _
  have htb : tv.ownBlock = some tb := by rw [hv]; rfl
  have k1 := own_ne2 hr1 hown (by decide)
  have k2 := own_ne2 hr1 hm1 (by decide)
  have hlen : ((tcs.set r (tcX l xs ms SA SC MA MC)).flatMap TC.cells).length = tcs.length * 9 := by rw [flat_length TC.cells 9 TC.len, List.length_set]
  have hrl := h.rl
  refine ⟨h.rl, ?_, ?_, own_upd hm1 hU2 (fun y hy hm => k2 y hy (by simp at hm; subst hm; simp [htb])), ?_, fun y hy => ?_, h.mblk⟩
  · obtain ⟨A, cc, e, _⟩ := own_shape hr1
    have e9 : A = some ⟨tb, 0, none⟩ := by
      rw [hv] at e
      injection e with e
      exact e.symm
    rw [e, e9] at hr1 ⊢
    have := own_set hr1 (j := r * 9 + 7) (by rw [hlen]; omega) (.slice SA' (xs.length + 1) SC')
    rw [flat_cell TC.len (by decide) _ r 7 (tcX l xs ms SA SC MA MC) (tcX l (xs ++ [x]) ms SA' SC' MA MC) _ (by rw [List.getElem?_set_self hrl]) (by decide) (by simp [tcX, TC.cells]), List.set_set] at this
    exact this
  · rw [e0, List.map_append]
    exact own_upd hown hU2 (fun y hy hm => k1 y hy (by simp at hm; subst hm; simp [htb]))
  · refine (h.up.trans hU (U := tv.ownBlock.toList ++ (sb ++ mb)) (fun _ h => h) (fun y hy => ?_)).trans hU2 (fun _ h => h) (fun y hy => ?_)
    · rcases h.sblk y (by simpa using hy) with k | k
      · exact .inl (by simp [k])
      · exact .inr k
    · simp at hy
      subst hy
      exact .inl (by simp [htb])
  · rw [e0] at hy
    rcases hat with k | ⟨b, k, k3⟩
    · exact h.sblk y (by rw [← k]; exact hy)
    · rw [hy] at k
      injection k with k
      subst k
      exact .inr k3
theorem TInv.appM {wp : World} {B r SC MC MC' : Nat} {tv : Value} {tcs : List TC} {l : TL} {sb mb : List Nat} {wr w1 : World} {xs : List Int} {ms : List ByteArray} {SA MA MA' : Option Addr} (h : TInv wp B tv tcs r l sb mb wr xs ms SA SC MA MC) {tb n m : Nat} (hv : tv = .slice (some ⟨tb, 0, none⟩) n m) (x : ByteArray)
    (hown : w1.ownsRow B 9 1 (.slice MA' (ms.length + 1) MC') (ms.length + 1) (ms.map Value.string ++ [.string x])) (hU : Upd (Value.slice MA ms.length MC).ownBlock.toList wr w1)
    (hat : (Value.slice MA' (ms.length + 1) MC').ownBlock = (Value.slice MA ms.length MC).ownBlock ∨ ∃ b, (Value.slice MA' (ms.length + 1) MC').ownBlock = some b ∧ wp.heap.size ≤ b) :
    TInv wp B tv tcs r l sb mb (w1.setCell ⟨tb, r * 9 + 8, none⟩ (.slice MA' (ms.length + 1) MC')) xs (ms ++ [x]) SA SC MA' MC' := by
  have n1 := own_ne2 h.mem h.row (by decide)
  have n2 := own_ne2 h.mem h.smp (by decide)
  have hr1 := own_upd h.row hU (fun y hy hm => n1 y hy hm)
  have hm1 := own_upd h.smp hU (fun y hy hm => n2 y hy hm)
  have e0 : (ms ++ [x]).length = ms.length + 1 := by simp
  have hU2 : Upd [tb] w1 (w1.setCell ⟨tb, r * 9 + 8, none⟩ (.slice MA' (ms.length + 1) MC')) := (Upd.refl [tb] w1).setCell (.inl (by simp)) _
  have htb : tv.ownBlock = some tb := by rw [hv]; rfl
  have k1 := own_ne2 hr1 hown (by decide)
  have k2 := own_ne2 hr1 hm1 (by decide)
  have hlen : ((tcs.set r (tcX l xs ms SA SC MA MC)).flatMap TC.cells).length = tcs.length * 9 := by rw [flat_length TC.cells 9 TC.len, List.length_set]
  have hrl := h.rl
  refine ⟨h.rl, ?_, own_upd hm1 hU2 (fun y hy hm => k2 y hy (by simp at hm; subst hm; simp [htb])), ?_, ?_, h.sblk, fun y hy => ?_⟩
  · obtain ⟨A, cc, e, _⟩ := own_shape hr1
    have e9 : A = some ⟨tb, 0, none⟩ := by
      rw [hv] at e
      injection e with e
      exact e.symm
    rw [e, e9] at hr1 ⊢
    have := own_set hr1 (j := r * 9 + 8) (by rw [hlen]; omega) (.slice MA' (ms.length + 1) MC')
    rw [flat_cell TC.len (by decide) _ r 8 (tcX l xs ms SA SC MA MC) (tcX l xs (ms ++ [x]) SA SC MA' MC') _ (by rw [List.getElem?_set_self hrl]) (by decide) (by simp [tcX, TC.cells]), List.set_set] at this
    exact this
  · rw [e0, List.map_append]
    exact own_upd hown hU2 (fun y hy hm => k1 y hy (by simp at hm; subst hm; simp [htb]))
  · refine (h.up.trans hU (U := tv.ownBlock.toList ++ (sb ++ mb)) (fun _ h => h) (fun y hy => ?_)).trans hU2 (fun _ h => h) (fun y hy => ?_)
    · rcases h.mblk y (by simpa using hy) with k | k
      · exact .inl (by simp [k])
      · exact .inr k
    · simp at hy
      subst hy
      exact .inl (by simp [htb])
  · rw [e0] at hy
    rcases hat with k | ⟨b, k, k3⟩
    · exact h.mblk y (by rw [← k]; exact hy)
    · rw [hy] at k
      injection k with k
      subst k
      exact .inr k3
/-! ### How far the writing has come -/
def Done (l l' : TL) : Prop := l'.smp = List.replicate l.smp.length (-1) ++ List.replicate 16 (-2) ∧ l'.mem = List.replicate l.mem.length ⟨#[63]⟩ ++ List.replicate 16 ⟨#[33]⟩
def Keep (l l' : TL) : Prop := l'.smp.length = l.smp.length ∧ l'.mem.length = l.mem.length
structure OwnR (cw cw' : List WCL) (i k : Nat) : Prop where
  len : cw'.length = cw.length
  at_ : ∀ (a : Nat) (c : WCL), cw[a]? = some c → ∃ c', cw'[a]? = some c' ∧ c'.us.length = c.us.length ∧ ∀ (b : Nat) (u : TC × TL), c.us[b]? = some u → ∃ u', c'.us[b]? = some u' ∧ (if a < i ∨ (a = i ∧ b < k) then Done u.2 u'.2 else Keep u.2 u'.2)
theorem OwnR.refl (cw : List WCL) : OwnR cw cw 0 0 :=
  ⟨rfl, fun a c hc => ⟨c, hc, rfl, fun b u hu => ⟨u, hu, by rw [if_neg (by omega)]; exact ⟨rfl, rfl⟩⟩⟩⟩
theorem OwnR.step {cw cw' : List WCL} {i k : Nat} (h : OwnR cw cw' i k) {c c' : WCL} {u u2 : TC × TL} (hc : cw[i]? = some c) (hu : c.us[k]? = some u) (hc' : cw'[i]? = some c') (hd : Done u.2 u2.2) : OwnR cw (cw'.set i ⟨c'.id, c'.tv, c'.us.set k u2⟩) i (k + 1) := by
  have hi := (List.getElem?_eq_some_iff.1 hc').1
  refine ⟨by rw [List.length_set, h.len], fun a d hd2 => ?_⟩
  obtain ⟨d', hd', hl, hu'⟩ := h.at_ a d hd2
  by_cases e : a = i
  · subst e
    rw [hc] at hd2
    obtain rfl := Option.some.inj hd2
    rw [hc'] at hd'
    obtain rfl := Option.some.inj hd'
    refine ⟨_, by rw [List.getElem?_set_self hi], by rw [List.length_set]; exact hl, fun b x hx => ?_⟩
    obtain ⟨x', hx', hk⟩ := hu' b x hx
    by_cases e2 : b = k
    · subst e2
      rw [hu] at hx
      obtain rfl := Option.some.inj hx
      have hb := (List.getElem?_eq_some_iff.1 hx').1
      exact ⟨u2, by rw [List.getElem?_set_self hb], by rw [if_pos (by omega)]; exact hd⟩
    · refine ⟨x', by rw [List.getElem?_set_ne (fun h => e2 h.symm)]; exact hx', ?_⟩
      by_cases hb : b < k
      · rw [if_pos (by omega)] at hk
        rw [if_pos (by omega)]
        exact hk
      · rw [if_neg (by omega)] at hk
        rw [if_neg (by omega)]
        exact hk
  · refine ⟨d', by rw [List.getElem?_set_ne (fun h => e h.symm)]; exact hd', hl, fun b x hx => ?_⟩
    obtain ⟨x', hx', hk⟩ := hu' b x hx
    refine ⟨x', hx', ?_⟩
    by_cases hb : a < i
    · rw [if_pos (by omega)] at hk
      rw [if_pos (by omega)]
      exact hk
    · rw [if_neg (by omega)] at hk
      rw [if_neg (by omega)]
      exact hk
theorem OwnR.next {cw cw' : List WCL} {i : Nat} {c : WCL} (hc : cw[i]? = some c) (h : OwnR cw cw' i c.us.length) : OwnR cw cw' (i + 1) 0 := by
  refine ⟨h.len, fun a d hd => ?_⟩
  obtain ⟨d', hd', hl, hu'⟩ := h.at_ a d hd
  refine ⟨d', hd', hl, fun b x hx => ?_⟩
  obtain ⟨x', hx', hk⟩ := hu' b x hx
  refine ⟨x', hx', ?_⟩
  by_cases e : a = i
  · subst e
    rw [hc] at hd
    obtain rfl := Option.some.inj hd
    have := (List.getElem?_eq_some_iff.1 hx).1
    rw [if_pos (by omega)] at hk
    rw [if_pos (by omega)]
    exact hk
  · by_cases hb : a < i
    · rw [if_pos (by omega)] at hk
      rw [if_pos (by omega)]
      exact hk
    · rw [if_neg (by omega)] at hk
      rw [if_neg (by omega)]
      exact hk
/-- The list x while the caller writes into it; y lies apart. -/
structure OwnAt (B N : Nat) (v : Value) (cw : List WCL) (w4 wr : World) (i k : Nat) (cw' : List WCL) : Prop where
  ws : WinsAt wr B B v cw'
  rel : OwnR cw cw' i k
  bl : ∀ b ∈ cw'.flatMap WCL.bl, b < N ∨ w4.heap.size ≤ b
  up : UpdP (fun b => B ≤ b ∧ b < N) w4 wr
theorem OwnAt.lift {B N i k : Nat} {v : Value} {cw cw' : List WCL} {w4 wr wr' : World} (h : OwnAt B N v cw w4 wr i k cw') (hU : Upd [] wr wr') : OwnAt B N v cw w4 wr' i k cw' :=
  ⟨h.ws.upd hU (by simp) (by simp), h.rel, h.bl, h.up.then0 hU⟩
theorem TInv.start {B N i k : Nat} {v : Value} {cw cw' : List WCL} {w4 wp : World} (h : OwnAt B N v cw w4 wp i k cw') {c' : WCL} {u' : TC × TL} (hc' : cw'[i]? = some c') (hu' : c'.us[k]? = some u') :
    ∃ SA SC MA MC, TInv wp B c'.tv (c'.us.map (·.1)) k u'.2 u'.1.sv.ownBlock.toList u'.1.mv.ownBlock.toList wp u'.2.smp u'.2.mem SA SC MA MC := by
  have hw := h.ws.wins c' (List.mem_of_getElem? hc')
  obtain ⟨SA, SC, MA, MC, e, hs, hm⟩ := (hw.2 u' (List.mem_of_getElem? hu')).form
  have hk := (List.getElem?_eq_some_iff.1 hu').1
  have e1 : u'.1 = tcX u'.2 u'.2.smp u'.2.mem SA SC MA MC := congrArg Prod.fst e
  refine ⟨SA, SC, MA, MC, by rw [List.length_map]; exact hk, ?_, hs, hm, Upd.refl _ _, fun g hg => .inl ?_, fun g hg => .inl ?_⟩
  · rw [← e1, List.length_map]
    have e2 : (c'.us.map (·.1)).set k u'.1 = c'.us.map (·.1) := by
      obtain ⟨hk, rfl⟩ := List.getElem?_eq_some_iff.1 hu'
      rw [← List.map_set, List.set_getElem_self]
    rw [e2]
    exact hw.1
  · rw [e1]
    simpa [TC.sv, tcX] using hg
  · rw [e1]
    simpa [TC.mv, tcX] using hg
theorem TInv.fin {B N i k SC MC : Nat} {v : Value} {cw cw' : List WCL} {w4 wp wr : World} {c c' : WCL} {u u' : TC × TL} {xs : List Int} {ms : List ByteArray} {SA MA : Option Addr} (h : OwnAt B N v cw w4 wp i k cw') (hBN : B ≤ N) (hc : cw[i]? = some c) (hu : c.us[k]? = some u) (hc' : cw'[i]? = some c') (hu' : c'.us[k]? = some u')
    (ht : TInv wp B c'.tv (c'.us.map (·.1)) k u'.2 u'.1.sv.ownBlock.toList u'.1.mv.ownBlock.toList wr xs ms SA SC MA MC) (hd : Done u.2 (tlX u'.2 xs ms)) :
    ∃ cw2, OwnAt B N v cw w4 wr i (k + 1) cw2 := by
  have hlt : ∀ b ∈ cw'.flatMap WCL.bl, B ≤ b := fun b hb => by
    obtain ⟨d, hd, hb⟩ := List.mem_flatMap.1 hb
    exact ((h.ws.wins d hd).lt (Nat.le_refl _) b hb).1
  have hsub : ∀ b ∈ c'.tv.ownBlock.toList ++ u'.1.bl, b ∈ cw'.flatMap WCL.bl := fun b hb => by
    refine List.mem_flatMap.2 ⟨c', List.mem_of_getElem? hc', ?_⟩
    rcases List.mem_append.1 hb with hb | hb
    · exact List.mem_append_left _ hb
    · exact List.mem_append_right _ (List.mem_flatMap.2 ⟨u', List.mem_of_getElem? hu', hb⟩)
  have hsz := h.up.size
  have hnew : ∀ b ∈ (tcX u'.2 xs ms SA SC MA MC).bl, b ∈ u'.1.bl ∨ wp.heap.size ≤ b := fun b hb => by
    rcases List.mem_append.1 hb with hb | hb
    · rcases ht.sblk b (by simpa [TC.sv, tcX] using hb) with k | k
      · exact .inl (List.mem_append_left _ k)
      · exact .inr k
    · rcases ht.mblk b (by simpa [TC.mv, tcX] using hb) with k | k
      · exact .inl (List.mem_append_right _ k)
      · exact .inr k
  have hu2 : Upd (c'.tv.ownBlock.toList ++ u'.1.bl) wp wr := ht.up
  have hws := h.ws.put (wr := wr) (u' := (tcX u'.2 xs ms SA SC MA MC, tlX u'.2 xs ms)) (Nat.le_refl _) hc' hu' (by
    have := ht.row
    rw [List.length_map] at this
    rw [List.map_set]
    exact this) ⟨rfl, rfl, rfl, rfl, rfl, rfl, rfl, ht.smp, ht.mem⟩ hu2 hnew (by
      have := own_ne2 ht.smp ht.mem (by decide)
      simp only [TC.bl, TC.sv, TC.mv, tcX]
      rw [List.nodup_append]
      refine ⟨by cases (Value.slice SA xs.length SC).ownBlock <;> simp, by cases (Value.slice MA ms.length MC).ownBlock <;> simp, fun a ha b hb e => ?_⟩
      subst e
      exact this a (by simpa using hb) ha)
  refine ⟨_, hws, h.rel.step hc hu hc' hd, fun b hb => ?_, ?_⟩
  · obtain ⟨d, hd, hb⟩ := List.mem_flatMap.1 hb
    have hold : ∀ b, b ∈ cw'.flatMap WCL.bl ∨ wp.heap.size ≤ b → b < N ∨ w4.heap.size ≤ b := fun b hb => by
      rcases hb with hb | hb
      · exact h.bl b hb
      · exact .inr (by omega)
    refine hold b ?_
    rcases List.mem_or_eq_of_mem_set hd with hd | rfl
    · exact .inl (List.mem_flatMap.2 ⟨d, hd, hb⟩)
    · rcases List.mem_append.1 hb with hb | hb
      · exact .inl (hsub b (List.mem_append_left _ hb))
      · obtain ⟨x, hx, hb⟩ := List.mem_flatMap.1 hb
        rcases List.mem_or_eq_of_mem_set hx with hx | rfl
        · exact .inl (List.mem_flatMap.2 ⟨c', List.mem_of_getElem? hc', List.mem_append_right _ (List.mem_flatMap.2 ⟨x, hx, hb⟩)⟩)
        · rcases hnew b hb with k | k
          · exact .inl (hsub b (List.mem_append_right _ k))
          · exact .inr k
  · have hp : UpdP (fun b => b ∈ c'.tv.ownBlock.toList ++ u'.1.bl) wp wr := ⟨_, hu2, fun b hb => hb⟩
    exact h.up.trans hp (fun x hx hm => by
      have h1 := hsub x hm
      rcases h.bl x h1 with k | k
      · exact ⟨hlt x h1, k⟩
      · omega)
end Go.Proofs.YthbjpoiolmlpmaaGreatDoor
