/- (*band).points, (*File).Points. (*File).Points. -/
import Derived.Test.YtdjpcinibgbglaaPts
import Derived.Test.YtdjpcinibgbglaaFileL
import Derived.WalkSpells
set_option linter.unusedVariables false
set_option linter.unusedSimpArgs false
namespace Go.Proofs.Ytdjpcinibgbglaa
open Go.RowKit Go.Sort
abbrev PtS := { p : Pt // I64 p.t }
instance : Inhabited PtS := ⟨⟨⟨0, 0⟩, by unfold I64; decide⟩⟩
theorem ltP (x y : PtS) : Go.Proofs.ltOf (fun a b : PtS => cmpP a.1 b.1) x y = decide (x.1.t < y.1.t) := by
  unfold Go.Proofs.ltOf cmpP cmpW
  by_cases h1 : x.1.t < y.1.t
  · simp [h1]
  · by_cases h2 : x.1.t = y.1.t <;> simp [h1, h2]
theorem swoP : Go.Sort.SWO (Go.Proofs.ltOf (fun a b : PtS => cmpP a.1 b.1)) where
  irrefl x := by rw [ltP]; simp
  trans x y z h1 h2 := by rw [ltP] at *; simp at *; omega
  ntrans x y z h1 h2 := by rw [ltP] at *; simp at *; omega
theorem isAggP : ∀ w, (isAgg 49).run Try.prog w = .ok true w := Try.isAgg49
theorem sizeP : ∀ w, (Go.sizeOf 49).run Try.prog w = .ok 3 w := Try.sizeOf49
theorem infoP : (Try.prog.info? 49).map (fun i => (i.zero, i.size, i.bytes)) = some (some (.agg #[.int .i64 0, .int .i64 0, .int .u64 0]), 3, 24) := by kernel_rfl
theorem ptR_len (p : Pt) : (ptR p).length = 3 := rfl
theorem ptR_one (p : Pt) : ∀ u ∈ ptR p, u.oneCell' = true := by intro u hu; simp [ptR] at hu; rcases hu with rfl | rfl | rfl <;> rfl
theorem liftS : ∀ (l : List Pt), (∀ p ∈ l, I64 p.t) → ∃ ls : List PtS, ls.map (·.1) = l
  | [], _ => ⟨[], rfl⟩
  | p :: l, h => by
    obtain ⟨ls, e⟩ := liftS l (fun q hq => h q (by simp [hq]))
    exact ⟨⟨p, h p (by simp)⟩ :: ls, by simp [e]⟩
theorem flatS (ls : List PtS) : ls.flatMap (fun x => ptR x.1) = (ls.map (·.1)).flatMap ptR := by
  induction ls with
  | nil => rfl
  | cons x ls ih => simp [List.flatMap_cons, ih]
theorem sortP_calls {w : World} {base n : Nat} {v : Value} {l : List Pt} (h : w.ownsRow base 49 3 v n (l.flatMap ptR)) (hn : n ≤ 4611686018427387903) (hl : ∀ p ∈ l, I64 p.t) :
    Calls Try.prog 59 #[v, .func (.func 60) #[] #[]] w fun e' w' => e' = .returned (.tuple #[]) ∧ ∃ l' : List Pt, l'.Perm l ∧ l'.Pairwise (fun a b => a.t ≤ b.t) ∧ w'.ownsRow base 49 3 v n (l'.flatMap ptR) ∧ Upd v.ownBlock.toList w w' := by
  obtain ⟨ls, rfl⟩ := liftS l hl
  rw [← flatS] at h
  have hc := sort_own Try.sortPoint 3 (by decide) isAggP sizeP (fun x : PtS => ptR x.1) (fun x => ptR_len x.1) (fun x => ptR_one x.1) (fun a b : PtS => cmpP a.1 b.1) swoP 60 (enters_of Try.func60 (by kernel_rfl) rfl) (fun x y W => order_calls x.1 y.1 W x.2 y.2) h hn
  refine hc.mono ?_
  rintro e' w' ⟨rfl, l', hp, hs, ho, hU⟩
  refine ⟨rfl, l'.map (·.1), hp.map _, ?_, by rw [← flatS]; exact ho, hU⟩
  rw [List.pairwise_map]
  refine hs.imp ?_
  intro a b hab
  rw [ltP] at hab
  simpa using hab
def Band.has (b : Band) (k : Nat) : List Pt := (b.pl.take k).filterMap id
theorem has_succ {b : Band} {k : Nat} {x : Option Pt} (h : b.pl[k]? = some x) : b.has (k + 1) = b.has k ++ x.toList := by
  unfold Band.has
  rw [List.take_add_one, h, List.filterMap_append]
  cases x <;> rfl
set_option maxHeartbeats 2000000 in
theorem points_calls (L : Loc) (b : Band) (w : World) (hB : BandAt w L b) (hok : b.ok) :
    Calls Try.prog 36 #[pB L.b] w fun e w' => ∃ (v' : Value) (l' : List Pt), e = .returned v' ∧ l'.Perm (b.pl.filterMap id) ∧ l'.Pairwise (fun a c => a.t ≤ c.t) ∧ w'.ownsRow w.heap.size 49 3 v' l'.length (l'.flatMap ptR) ∧ Upd [] w w' := by
  have y3 := hB.hb.cell (j := 3) rfl
  have hb := hok.b
  have HOK := Lib.hid hok
  have HBA := Lib.hid hB
  have hnI : (b.n : Int) ≤ 4096 := by omega
  clear hok hB
  go_enter Try.func36, Try.ntmps36
  go_wp2
  go_loopw [3, 12] (fun v i wr => ∃ k : Nat, k ≤ b.n ∧ i = .int .i64 (k : Int) ∧ Upd [] w wr ∧ wr.ownsRow w.heap.size 49 3 v (b.has k).length ((b.has k).flatMap ptR)) (fun v i _ => b.n - (intOf i).toNat)
  case atStart => exact ⟨0, Nat.zero_le _, rfl, Upd.refl _ _, ⟨rfl, .inl ⟨rfl, rfl⟩⟩⟩
  case round =>
    obtain ⟨k, hk, rfl, hU, hO⟩ := hrel
    have HU := Lib.hid hU
    have HO := Lib.hid hO
    have hbase := own_base hO
    by_cases hlt : k < b.n
    · obtain ⟨x, hx⟩ : ∃ x, b.pl[k]? = some x := ⟨_, List.getElem?_eq_getElem hlt⟩
      have hBk := HBA.out.upd0 hU
      have r0 := hBk.fl hx
      have hkI : (k : Int) < (b.n : Int) := by omega
      have HX := Lib.hid hx
      rcases x with _ | ⟨t, vv⟩
      · have e1 : b.has (k + 1) = b.has k := by rw [has_succ hx]; simp
        have E1 := Lib.hid e1
        clear hx hBk hU hO hbase e1
        go_wp2
        refine ⟨⟨k + 1, by omega, rfl, HU.out, by rw [E1.out]; exact HO.out⟩, by show b.n - ((k : Int) + 1).toNat < b.n - (k : Int).toNat; omega⟩
      · have e1 : b.has (k + 1) = b.has k ++ [⟨t, vv⟩] := has_succ hx
        have E1 := Lib.hid e1
        have hlen : (b.has k).length ≤ k := by
          unfold Band.has
          have h1 := List.length_filterMap_le id (b.pl.take k)
          have h2 := List.length_take_le k b.pl
          omega
        have HLE := Lib.hid hlen
        have q0 : wr.cell? ⟨L.l, k * 3, none⟩ = some (.int .i64 t) := hBk.pt (j := 0) hx rfl
        have q1 : wr.cell? ⟨L.l, k * 3 + 1, none⟩ = some (.int .i64 (wh vv)) := hBk.pt (j := 1) hx rfl
        have q2 : wr.cell? ⟨L.l, k * 3 + 2, none⟩ = some (.int .u64 (wl vv)) := hBk.pt (j := 2) hx rfl
        have y2 := hBk.hb.cell (j := 2) rfl
        obtain ⟨B, q, rfl, hc1, hc2, hc3⟩ := own_shape hO
        have HUS := Lib.hid hU.size
        have HN := Lib.hid (HB.new wr 49 (ptR ⟨t, vv⟩))
        clear hx hBk hU hO hbase e1 hlen hc1 hc2 hc3
        go_wp2_with (at_builtin; go_must (refine wp_append1 w.heap.size 41 49 _ 3 24 (.slice B (b.has k).length q) _ _ (ptR ⟨t, vv⟩) _ rfl rfl (by kernel_rfl) infoP rfl (by decide) (by decide) rfl rfl (ptR_len _) (ptR_one _) (own_upd HO.out ((Upd.refl [] wr).alloc _) (by simp)) HN.out (by have := HUS.out; simp; omega) (by have := HLE.out; omega) ?_))
        intro v1 w1 hown1 hU1 hat1
        have HO1 := Lib.hid hown1
        have HU1 := Lib.hid hU1
        clear hown1 hU1 hat1 q0 q1 q2 y2
        go_wp2
        refine ⟨⟨k + 1, by omega, rfl, app_upd HU.out ((Upd.refl [] wr).alloc _) HU1.out (own_base HO.out), ?_⟩, by show b.n - ((k : Int) + 1).toNat < b.n - (k : Int).toNat; omega⟩
        rw [E1.out, List.length_append, List.flatMap_append]
        simpa using HO1.out
    · obtain rfl : k = b.n := by omega
      have e1 : b.has b.n = b.pl.filterMap id := by unfold Band.has Band.n; rw [List.take_length]
      rw [e1] at hO
      have hI : ∀ p ∈ b.pl.filterMap id, I64 p.t := by
        intro p hp
        simp only [List.mem_filterMap, id, exists_eq_right] at hp
        obtain ⟨j, hj, e⟩ := List.mem_iff_getElem.1 hp
        have := HOK.out.pts j p (by rw [List.getElem?_eq_getElem hj, e])
        unfold I64
        omega
      have hcount : (b.pl.filterMap id).length ≤ 4611686018427387903 := by
        have h1 := List.length_filterMap_le id b.pl
        have h2 : b.pl.length ≤ 4096 := hb.2.2.2.1
        omega
      have HS := Lib.hid (sortP_calls hO hcount hI)
      have HBASE := Lib.hid (own_base hO)
      clear hU hO hbase e1 hI hcount
      go_wp2_with fail
      refine HS.out.mono ?_
      rintro e w1 ⟨rfl, l', hp, hs, ho, hU1⟩
      have hl : (b.pl.filterMap id).length = l'.length := hp.length_eq.symm
      rw [hl] at ho
      have HF := Lib.hid (⟨hp, hs, ho, HU.out.trans hU1 (fun _ h => h) (fun i hi => .inr (HBASE.out i (by simpa using hi)))⟩ : l'.Perm (b.pl.filterMap id) ∧ l'.Pairwise (fun a c => a.t ≤ c.t) ∧ _ ∧ Upd [] w w1)
      clear hp hs ho hU1 hl
      go_wp2
      go_ret
      exact ⟨_, l', rfl, HF.out⟩
end Go.Proofs.Ytdjpcinibgbglaa
namespace Go.Proofs.Ytdjpcinibgbglaa
open Go.RowKit Go.Sort
set_option maxHeartbeats 1000000 in
theorem pointsF_in (base fb : Nat) (f : Fl) (v : Value) (Ls : List Loc) (k : Nat) (b : Band) (w : World) (hf : FileAt w base fb f v Ls) (hok : f.ok) (hk : f.bands[k]? = some b) :
    Calls Try.prog 17 #[.pointer (some ⟨fb, 0, none⟩), .int .i64 k] w fun e w' => ∃ (v' : Value) (l' : List Pt), e = .returned v' ∧ l'.Perm (b.pl.filterMap id) ∧ l'.Pairwise (fun a c => a.t ≤ c.t) ∧ w'.ownsRow w.heap.size 49 3 v' l'.length (l'.flatMap ptR) ∧ Upd [] w w' := by
  obtain ⟨A, c, rfl, hc1, hc2, hc3⟩ := hf.row.shape
  have hkl := (List.getElem?_eq_some_iff.1 hk).1
  have hlen := hf.len
  obtain ⟨L, hL⟩ : ∃ L, Ls[k]? = some L := ⟨_, List.getElem?_eq_getElem (by omega)⟩
  obtain ⟨g, o, rfl, _, hcell⟩ := hf.row.at_ hL
  have HM := Lib.hid (made_calls base fb f _ Ls w hf hok.ne)
  have HP := Lib.hid (fun W (hW : Upd [] w W) => points_calls L b W ((hf.band k L b hL hk).upd0 hW) (hok.bands b (List.mem_of_getElem? hk)))
  have HF := Lib.hid hf
  have c0 : w.cell? ⟨g, o + k, none⟩ = some (pB L.b) := by simpa using hcell 0 _ rfl
  have C0 := Lib.hid c0
  have e1 : decide ((k : Int) < 0) = false := decide_eq_false (by omega)
  have e2 : decide ((Ls.length : Int) ≤ (k : Int)) = false := decide_eq_false (by omega)
  have hkI : (k : Int) < (Ls.length : Int) := by omega
  clear hf hL hcell hc1 hc2 hc3 hk c0
  go_enter Try.func17, Try.ntmps17
  go_wp2_with fail
  refine HM.out.mono ?_
  rintro e w1 ⟨rfl, hU1⟩
  have HU1 := Lib.hid hU1
  have y2 := (HF.out.upd0 hU1).hf.cell (j := 2) rfl
  have c1 := hU1.cell C0.out (by simp)
  clear hU1
  go_wp2_with fail
  refine (HP.out _ HU1.out).mono ?_
  rintro e w2 ⟨v', l', rfl, hp, hs, ho, hU2⟩
  have HR := Lib.hid (⟨hp, hs, own_base_mono ho HU1.out.size, HU1.out.then hU2⟩ : l'.Perm (b.pl.filterMap id) ∧ l'.Pairwise (fun a c => a.t ≤ c.t) ∧ _ ∧ Upd [] w w2)
  clear hp hs ho hU2
  go_wp2
  go_ret
  exact ⟨_, l', rfl, HR.out⟩
set_option maxHeartbeats 1000000 in
theorem pointsF_out (base fb : Nat) (f : Fl) (v : Value) (Ls : List Loc) (i : Int) (w : World) (hf : FileAt w base fb f v Ls) (hok : f.ok) (hi : i < 0 ∨ (f.bands.length : Int) ≤ i) :
    Calls Try.prog 17 #[.pointer (some ⟨fb, 0, none⟩), .int .i64 i] w fun e w' => e = .returned (.slice none 0 0) ∧ Upd [] w w' := by
  obtain ⟨A, c, rfl, hc1, hc2, hc3⟩ := hf.row.shape
  rw [← hf.len] at hi
  have HM := Lib.hid (made_calls base fb f _ Ls w hf hok.ne)
  have HF := Lib.hid hf
  clear hf hc1 hc2 hc3
  by_cases h0 : i < 0
  · have e1 : decide (i < 0) = true := decide_eq_true h0
    go_enter Try.func17, Try.ntmps17
    go_wp2_with fail
    refine HM.out.mono ?_
    rintro e w1 ⟨rfl, hU1⟩
    go_wp2
    go_ret
    exact ⟨rfl, hU1⟩
  · have e1 : decide (i < 0) = false := decide_eq_false h0
    have e2 : decide ((Ls.length : Int) ≤ i) = true := decide_eq_true (by omega)
    go_enter Try.func17, Try.ntmps17
    go_wp2_with fail
    refine HM.out.mono ?_
    rintro e w1 ⟨rfl, hU1⟩
    have y2 := (HF.out.upd0 hU1).hf.cell (j := 2) rfl
    go_wp2
    go_ret
    exact ⟨rfl, hU1⟩
theorem pointsF_nil (i : Int) (w : World) : Calls Try.prog 17 #[.pointer none, .int .i64 i] w fun e w' => e = .returned (.slice none 0 0) ∧ Upd [] w w' := by
  go_enter Try.func17, Try.ntmps17
  go_wp2_with fail
  refine (made_nil w).mono ?_
  rintro e w1 ⟨rfl, hU1⟩
  go_wp2
  go_ret
  exact ⟨rfl, hU1⟩
end Go.Proofs.Ytdjpcinibgbglaa
