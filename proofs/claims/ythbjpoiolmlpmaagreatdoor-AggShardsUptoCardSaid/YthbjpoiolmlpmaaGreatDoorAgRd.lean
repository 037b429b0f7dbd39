/- What was told, as data that a reader reads. -/
import Derived.Test.YthbjpoiolmlpmaaGreatDoorClose
import Derived.Test.YthbjpoiolmlpmaaGreatDoorSameW
import Derived.Test.YthbjpoiolmlpmaaGreatDoorAgPl
set_option linter.unusedVariables false
set_option linter.unusedSimpArgs false
namespace Go.Proofs.YthbjpoiolmlpmaaGreatDoor
open Go.RowKit
def tlD (l : TL) : Tally := (l.k, l.n, l.c, (wh l.sum, wl l.sum, ()), (wh l.wt, wl l.wt, ()), l.smp, l.mem, ())
structure TL.wf (l : TL) : Prop where
  k : (Lit.int .i64 l.k).wf = true
  n : l.n.size ≤ maxLen
  c : (Lit.int .i64 l.c).wf = true
  sum : I128 l.sum
  wt : I128 l.wt
  smp : ∀ x ∈ l.smp, (Lit.int .i64 x).wf = true
  mem : ∀ x ∈ l.mem, x.size ≤ maxLen
theorem wf_i {x : Int} (h : I64 x) : (Lit.int .i64 x).wf = true := by
  unfold I64 at h
  show (decide (-9223372036854775808 ≤ x) && decide (x ≤ 9223372036854775807)) = true
  simp
  omega
theorem wf_u {x : Int} (h : U64 x) : (Lit.int .u64 x).wf = true := by
  unfold U64 at h
  show (decide (0 ≤ x) && decide (x ≤ 18446744073709551615)) = true
  simp
  omega
theorem TlAt.rd {w : World} {base : Nat} {u : TC} {l : TL} (h : TlAt w base base u l) (hw : l.wf) (F : Nat → Prop) (hF : ∀ b, base ≤ b → F b) : Rd w F gTally u.cells (tlD l) := by
  have hs := own_rdI h.smp (fun i x hx => hw.smp x (List.mem_of_getElem? hx)) hF
  have hm := own_rdS h.mem (fun i x hx => hw.mem x (List.mem_of_getElem? hx)) hF
  obtain ⟨k, n, c, sh, sl, wh0, wl0, sa, sn, sc, ma, mn, mc⟩ := u
  obtain ⟨e1, e2, e3, e4, e5, e6, e7, _, _⟩ := h
  dsimp only at e1 e2 e3 e4 e5 e6 e7
  subst e1 e2 e3 e4 e5 e6 e7
  exact ⟨[_], _, rfl, ⟨rfl, hw.k⟩, [_], _, rfl, ⟨rfl, hw.n⟩, [_], _, rfl, ⟨rfl, hw.c⟩, [_, _], _, rfl, ⟨[_], _, rfl, ⟨rfl, wf_i (wh_i hw.sum)⟩, [_], [], rfl, ⟨rfl, wf_u (wl_u _)⟩, rfl⟩, [_, _], _, rfl, ⟨[_], _, rfl, ⟨rfl, wf_i (wh_i hw.wt)⟩, [_], [], rfl, ⟨rfl, wf_u (wl_u _)⟩, rfl⟩, [_], _, rfl, hs, [_], [], rfl, hm, rfl⟩
theorem chk_sz {e : Ev} (h : chk e = 0) : e.name.size ≤ 200 ∧ (e.kind = 4 → e.member.size ≤ 100) := by
  have h0 := (chk_ok h).1
  unfold chk at h
  split at h
  · cases h
  · rename_i h1
    split at h
    · cases h
    · split at h
      · cases h
      · rename_i h2
        refine ⟨?_, fun hk => ?_⟩
        · unfold validB at h1
          simp only [Bool.not_eq_false, Bool.and_eq_true, decide_eq_true_eq] at h1
          exact h1.1.1
        · unfold vfit at h2
          split at h2
          · simp at h2
          · rw [if_neg (by omega), if_neg (by omega)] at h2
            unfold memB at h2
            simp only [Bool.not_eq_false, Bool.and_eq_true, decide_eq_true_eq] at h2
            have h3 := h2.2.2
            simpa using h3
theorem Told.wf {E : List KE} (hE : ∀ p ∈ E, chk p.2 = 0) (hl : E.length ≤ 4194303) {g : GV} {c : Nat} (hg : ∀ x v, g x = some v → v.natAbs ≤ c * 1000000000000000000) (hc : c ≤ 4194303) {id : Int} {T : List TL} (h : Told E g id T) : ∀ t ∈ T, t.wf := by
  intro t ht
  have e := h.eq t ht
  obtain ⟨p, hp, hm⟩ := (h.mem t.met).1 (List.mem_map_of_mem ht)
  have hpm := (inM_iff.1 hm).2
  have hk := (chk_ok (hE p hp)).1
  have hz := chk_sz (hE p hp)
  have hfl := List.length_filter_le (inM id t.met) E
  have hok := tkOf_ok hE id t.met
  have hb : ((g t.met.2).getD 0).natAbs ≤ c * 1000000000000000000 := by
    cases hgx : g t.met.2 with
    | none => simp
    | some u => simpa using hg _ u hgx
  have hsum := ok_sum hok hb
  obtain ⟨N, hN⟩ : ∃ N, N = (E.filter (inM id t.met)).length := ⟨_, rfl⟩
  rw [← hN] at hok hsum hfl
  have hcn : (c + N) * 1000000000000000000 ≤ 8388606 * 1000000000000000000 := Nat.mul_le_mul_right _ (by omega)
  have hn : (tkOf E id t.met).n = N := by rw [tkOf_n, hN]
  have hkk : t.met.1 = p.2.kind := by rw [← hpm]; rfl
  have hnn : t.met.2 = p.2.name := by rw [← hpm]; rfl
  rw [e]
  unfold tlOf
  refine ⟨?_, ?_, ?_, ?_, ?_, fun x hx => ?_, fun x hx => ?_⟩
  · exact wf_i (by show I64 t.met.1; unfold I64; omega)
  · show t.met.2.size ≤ maxLen
    rw [hnn]
    unfold maxLen
    omega
  · exact wf_i (by show I64 (tkOf E id t.met).n; rw [hn]; unfold I64; omega)
  · show I128 ((tkOf E id t.met).sum _)
    unfold I128
    omega
  · show I128 (tkOf E id t.met).wt
    have : (tkOf E id t.met).wt.natAbs ≤ N * 1000000000000000000 := by
      revert hok
      generalize tkOf E id t.met = k
      cases k <;> simp only [TK.ok, TK.wt]
      · intro _; simp
      · intro _; simp
      · exact fun h => h.2.2
      · intro _; simp
    have h2 : N * 1000000000000000000 ≤ 4194303 * 1000000000000000000 := Nat.mul_le_mul_right _ (by omega)
    unfold I128
    omega
  · have hx2 : x ∈ (tkOf E id t.met).smp := hx
    by_cases h3 : t.met.1 = 3
    · rw [show t.met = (3, t.met.2) from Prod.ext h3 rfl, tkOf_tim] at hx2
      have hx3 := (sortI_mem_perm _).mem_iff.1 hx2
      obtain ⟨q, hq, rfl⟩ := List.mem_map.1 hx3
      have := (chk_ok (hE q (List.mem_filter.1 hq).1)).2.1
      exact wf_i (by unfold I64; omega)
    · have hkd := tkOf_kind (E := E) (id := id) (m := t.met) (by omega)
      revert hx2 hkd
      generalize tkOf E id t.met = k
      cases k <;> simp only [TK.smp, TK.kind] <;> intro hx2 hkd
      · cases hx2
      · cases hx2
      · exact absurd hkd.symm h3
      · cases hx2
  · have hx2 : x ∈ (tkOf E id t.met).mem := hx
    by_cases h3 : t.met.1 = 4
    · rw [show t.met = (4, t.met.2) from Prod.ext h3 rfl, tkOf_set] at hx2
      have hx3 := (sortS_perm0 _).mem_iff.1 hx2
      rw [addMs_mem] at hx3
      rcases hx3 with hx3 | hx3
      · cases hx3
      · obtain ⟨q, hq, rfl⟩ := List.mem_map.1 hx3
        obtain ⟨q1, q2⟩ := List.mem_filter.1 hq
        have := (chk_sz (hE q q1)).2 (by have := congrArg Prod.fst (inM_iff.1 q2).2; exact this)
        unfold maxLen
        omega
    · have hkd := tkOf_kind (E := E) (id := id) (m := t.met) (by omega)
      revert hx2 hkd
      generalize tkOf E id t.met = k
      cases k <;> simp only [TK.mem, TK.kind] <;> intro hx2 hkd
      · cases hx2
      · cases hx2
      · cases hx2
      · exact absurd hkd.symm h3
theorem Tells.wf {E : List KE} (hE : ∀ p ∈ E, chk p.2 = 0) (hl : E.length ≤ 4194303) {g g' : GV} {ids : List Int} {ws : List (Int × List TL)} (h : Tells E g ids ws g') : ∀ {c : Nat}, (∀ x v, g x = some v → v.natAbs ≤ c * 1000000000000000000) → c + (ids.map (cntW E)).sum ≤ 4194303 → ∀ q ∈ ws, ∀ t ∈ q.2, t.wf := by
  induction h with
  | nil g => intro c _ _ q hq; cases hq
  | @cons g id ids T ws g' h t ih =>
    intro c hg hc q hq
    rw [List.map_cons, List.sum_cons] at hc
    rcases List.mem_cons.1 hq with rfl | hq
    · exact h.wf hE hl hg (by omega)
    · refine ih (c := c + cntW E id) ?_ (by omega) q hq
      have := tells_g hE (Tells.cons h (.nil _)) hg
      simpa using this
theorem Closes.wf {M : Nat} {A A' : AgE} {id : Int} {ws : List (Int × List TL)} (ho : A.ok M) (hM : M ≤ 4194303) (h : Closes A id ws A') : ∀ q ∈ ws, ∀ t ∈ q.2, t.wf := by
  obtain ⟨c, hc, hg⟩ := ho.gs
  unfold Closes at h
  split at h
  · rw [h.1]; intro q hq; cases hq
  · obtain ⟨ids, g', h1, h2, rfl⟩ := h
    have k1 := cntW_sum A.E ids (h1.rise.imp (fun h => by omega))
    have k2 := List.length_filter_le (fun p : KE => decide (p.1 ∈ ids)) A.E
    exact h2.wf ho.ev (by omega) hg (by omega)
/-- The windows' row, and each window's. -/
theorem WinsAt.rowK {w : World} {B base : Nat} {v : Value} {cw : List WCL} (h : WinsAt w B base v cw) : RowK w (B ≤ ·) winC 2 v (cw.map fun c => (c.id, c.tv)) := by
  have e : cw.flatMap WCL.cells = (cw.map fun c => (c.id, c.tv)).flatMap winC := by rw [List.flatMap_map]; rfl
  have hr := h.row
  rw [e] at hr
  exact (own_row (enc := winC) (k := 2) (fun _ => rfl) (by decide) hr).2
theorem WinAt.rowK {w : World} {B base : Nat} {c : WCL} (h : WinAt w B base c) : RowK w (B ≤ ·) TC.cells 9 c.tv (c.us.map (·.1)) := (own_row TC.len (by decide) h.1).2
theorem WinAt.tds {w : World} {B base : Nat} {c : WCL} (h : WinAt w B base c) (hw : ∀ u ∈ c.us, u.2.wf) (hb : base ≤ B) (F : Nat → Prop) (hF : ∀ b, base ≤ b → F b) : TDs w F (c.us.map (·.1)) (c.us.map fun u => tlD u.2) := by
  refine ⟨by simp, fun i a d h1 h2 => ?_⟩
  rw [List.getElem?_map] at h1 h2
  cases hu : c.us[i]? with
  | none => rw [hu] at h1; cases h1
  | some u =>
    rw [hu] at h1 h2
    obtain rfl := Option.some.inj h1
    obtain rfl := Option.some.inj h2
    have hm := List.mem_of_getElem? hu
    exact (h.2 u hm).rd (hw u hm) F hF
/-- Two told lists that say the same. -/
theorem sameW_calls {w : World} {B base B' base' : Nat} {v v' : Value} {cw cw' : List WCL} (h : WinsAt w B base v cw) (h' : WinsAt w B' base' v' cw') (he : cw.map WCL.pl = cw'.map WCL.pl) (hw : ∀ q ∈ cw.map WCL.pl, ∀ t ∈ q.2, t.wf) (hb : base ≤ B) (hb' : base' ≤ B') :
    Calls Tryz.prog 14 #[v, v'] w fun e w' => e = .returned (.bool true) ∧ Upd [] w w' := by
  refine same_calls v v' _ _ (B ≤ ·) (B' ≤ ·) w h.rowK h'.rowK (by have := congrArg List.length he; simpa using this) (fun i p q hp hq => ?_)
  rw [List.getElem?_map] at hp hq
  cases hc : cw[i]? with
  | none => rw [hc] at hp; cases hp
  | some c =>
    cases hc' : cw'[i]? with
    | none => rw [hc'] at hq; cases hq
    | some c' =>
      rw [hc] at hp
      rw [hc'] at hq
      obtain rfl := Option.some.inj hp
      obtain rfl := Option.some.inj hq
      have hpl : c.pl = c'.pl := by
        have h1 : (cw.map WCL.pl)[i]? = some c.pl := by rw [List.getElem?_map, hc]; rfl
        have h2 : (cw'.map WCL.pl)[i]? = some c'.pl := by rw [List.getElem?_map, hc']; rfl
        rw [he, h2] at h1
        exact (Option.some.inj h1).symm
      have hcm := List.mem_of_getElem? hc
      have hcm' := List.mem_of_getElem? hc'
      have hwf : ∀ u ∈ c.us, u.2.wf := fun u hu => hw c.pl (List.mem_map_of_mem hcm) u.2 (List.mem_map_of_mem hu)
      have hts : c.us.map (·.2) = c'.us.map (·.2) := congrArg Prod.snd hpl
      have hwf' : ∀ u ∈ c'.us, u.2.wf := fun u hu => hw c.pl (List.mem_map_of_mem hcm) u.2 (by show _ ∈ c.us.map (·.2); rw [hts]; exact List.mem_map_of_mem hu)
      refine ⟨show c.id = c'.id from congrArg Prod.fst hpl, fun W hU => ?_⟩
      have k1 := (h.wins c hcm).upd hU (fun b _ => by simp)
      have k2 := (h'.wins c' hcm').upd hU (fun b _ => by simp)
      have t1 := k1.tds hwf hb (fun _ => True) (fun _ _ => trivial)
      have t2 := k2.tds hwf' hb' (fun _ => True) (fun _ _ => trivial)
      have hd : (c.us.map fun u => tlD u.2) = c'.us.map fun u => tlD u.2 := by
        have := congrArg (List.map tlD) hts
        rw [List.map_map, List.map_map] at this
        exact this
      rw [← hd] at t2
      exact allAlike_calls _ _ _ _ _ (fun _ => True) (fun _ => True) W (k1.rowK.mono (fun _ _ => trivial)) (k2.rowK.mono (fun _ _ => trivial)) t1 t2
end Go.Proofs.YthbjpoiolmlpmaaGreatDoor
