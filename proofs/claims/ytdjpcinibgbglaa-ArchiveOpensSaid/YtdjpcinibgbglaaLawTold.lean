/- The law ArchiveTold. -/
import Derived.Test.YtdjpcinibgbglaaLawBB
import Derived.Test.YtdjpcinibgbglaaTold
import Derived.Test.YtdjpcinibgbglaaMade
import Derived.Test.YtdjpcinibgbglaaAlive
set_option linter.unusedVariables false
set_option linter.unusedSimpArgs false
namespace Go.Proofs.Ytdjpcinibgbglaa
open Go.RowKit Go.Sort
theorem BRow.set {w : World} {base g cap k : Nat} {L : List Int} (h : BRow w base (.slice (some ⟨g, 0, none⟩) L.length cap) L) (hk : k < L.length) (x : Int) :
    BRow (w.setCell ⟨g, k, none⟩ (.int .u8 x)) base (.slice (some ⟨g, 0, none⟩) (L.set k x).length cap) (L.set k x) := by
  obtain ⟨h1, h2⟩ := h
  rcases h2 with ⟨h2, _⟩ | ⟨g', cap', cur, e, hb, hg, r1, r2, r3, r4⟩
  · cases h2
  · injection e with e1 e2 e3
    injection e1 with e1
    injection e1 with e1 _ _
    subst e1 e3
    have hB : HB w g 5 cur.toList := by unfold HB; rw [Array.toArray_toList]; exact hg
    have hs := hB.set k (.int .u8 x)
    refine ⟨by rw [cb_len, Nat.mul_one], .inr ⟨g, cap, (cur.toList.set k (.int .u8 x)).toArray, by rw [List.length_set], hb, hs, by rw [List.length_set]; exact r1, r2, by simpa using r3, ?_⟩⟩
    rw [List.length_set]
    show (cur.toList.set k (.int .u8 x)).take (L.length * 1) = _
    rw [List.take_set, r4]
    simp [cb, List.map_set]
theorem own_free {w : World} {base n cap g : Nat} {e : TypeId} {size : Nat} {xs : List Value} (h : w.ownsRow base e size (.slice (some ⟨g, 0, none⟩) n cap) n xs) (j : Nat) : w.frozen? ⟨g, j, none⟩ = false := by
  rcases h.2 with ⟨h1, _⟩ | ⟨g', cap', cur, h1, hb, hg, _⟩
  · cases h1
  · injection h1 with h1
    injection h1 with h1
    injection h1 with h1
    subst h1
    have hB : HB w g e cur.toList := by unfold HB; rw [Array.toArray_toList]; exact hg
    exact hB.free j
theorem pts_len {b : Band} (h : b.ok) : b.pts.length ≤ 4096 := by
  have h1 := (ptsOk_pts h).len
  have h2 := h.b
  omega
theorem flat_le {α β : Type} {g : α → List β} {M : Nat} : ∀ l : List α, (∀ x ∈ l, (g x).length ≤ M) → (l.flatMap g).length ≤ l.length * M
  | [], _ => by simp
  | x :: l, h => by
    have h1 := h x (by simp)
    have h2 := flat_le l (fun y hy => h y (by simp [hy]))
    rw [List.flatMap_cons, List.length_append, List.length_cons, Nat.succ_mul]
    omega
theorem bytes_le {f : Fl} (h : f.ok) : f.bytes.length ≤ 1000000 := by
  have hl := h.le
  have h1 := flat_le (g := specB) (M := 12) f.bands (fun b _ => by rw [specB_len]; exact Nat.le_refl _)
  have h2 := flat_le (g := bandB) (M := 4 + 4096 * 24) f.bands (fun b hb => by
    have h3 := pts_len (h.bands b hb)
    have h4 := flat_le (g := ptB) (M := 24) b.pts (fun q _ => by rw [ptB_len]; exact Nat.le_refl _)
    unfold bandB
    rw [List.length_append, highL_len]
    omega)
  unfold Fl.bytes Fl.body
  simp only [List.length_append, List.length_cons, List.length_nil, highL_len]
  omega
theorem bytes_byt {f : Fl} (h : f.ok) : Byt f.bytes := (body_byt h).app (highL_byt _ _)
theorem openP_err {l : List Int} {r : Nat × Int} (h : openP l = .error r) : r.2 ≠ 0 := by
  unfold openP at h
  split at h
  · injection h with h; subst h; show (195 : Int) ≠ 0; decide
  · split at h
    · injection h with h; subst h; show (195 : Int) ≠ 0; decide
    · split at h
      · injection h with h; subst h; show (196 : Int) ≠ 0; decide
      · generalize headP _ = H at h
        cases H with
        | error p => injection h with h; subst h; show (195 : Int) ≠ 0; decide
        | ok r' =>
          obtain ⟨s, m, x, p⟩ := r'
          simp only [opnH] at h
          generalize rdBands _ _ _ = R at h
          cases R with
          | error p => injection h with h; subst h; show (195 : Int) ≠ 0; decide
          | ok r2 =>
            obtain ⟨bs, p2⟩ := r2
            simp only [opnT] at h
            split at h
            · injection h with h; subst h; show (195 : Int) ≠ 0; decide
            · cases h
/-- What Open answers when one byte is written over a file's bytes. -/
def ToldQ (w w' : World) (e : Ending) (same : Bool) : Prop := ∃ (p : Option Addr) (n er : Int), e = .returned (.tuple #[.pointer p, .int .i64 n, .int .i64 er]) ∧ (er == 0) = same ∧ (p.isSome) = same ∧ Upd [] w w'
theorem told_calls {f : Fl} (hf : f.ok) {k : Nat} {x c : Int} (hx : f.bytes[k]? = some x) (hc : 0 ≤ c ∧ c ≤ 255) {base g cap : Nat} (w : World) (h : BRow w base (.slice (some ⟨g, 0, none⟩) f.bytes.length cap) f.bytes) :
    Calls Try.prog 28 #[.slice (some ⟨g, 0, none⟩) f.bytes.length cap] (w.setCell ⟨g, k, none⟩ (.int .u8 c)) fun e w' => ToldQ (w.setCell ⟨g, k, none⟩ (.int .u8 c)) w' e (x == c) := by
  have hk : k < f.bytes.length := (List.getElem?_eq_some_iff.1 hx).1
  have hs := h.set hk c
  have hl : (f.bytes.set k c).length = f.bytes.length := List.length_set
  have hby : Byt (f.bytes.set k c) := fun y hy => by
    rcases List.mem_or_eq_of_mem_set hy with hy | rfl
    · exact bytes_byt hf y hy
    · exact hc
  have hle := bytes_le hf
  rw [hl] at hs
  have hgl : g < (w.setCell ⟨g, k, none⟩ (.int .u8 c)).heap.size := by
    obtain ⟨g', hA, hcell, -⟩ := own_cell h k _ (cb_get hx)
    injection hA with hA
    injection hA with hA
    subst hA
    have := World.block_lt_of_cell? _ _ hcell
    simpa [World.setCell] using this
  have hrow := hs.row
  have hrow2 : RowK (w.setCell ⟨g, k, none⟩ (.int .u8 c)) (fun b => b = g) bc 1 (.slice (some ⟨g, 0, none⟩) f.bytes.length cap) (f.bytes.set k c) := by
    obtain ⟨A, c', h1, h2, h3, h4, h5⟩ := hrow
    refine ⟨A, c', h1, h2, h3, h4, fun i y hy => ?_⟩
    obtain ⟨b, o, r1, r2, r3⟩ := h5 i y hy
    refine ⟨b, o, r1, ?_, r3⟩
    rw [r1] at h1
    injection h1 with h1
    injection h1 with h1
    injection h1 with h1
    exact h1.symm
  have ho := open_calls _ _ _ _ hrow2 hby (by rw [hl]; omega) (fun b hb => by subst hb; exact hgl)
  by_cases hxc : x = c
  · subst hxc
    have e1 : f.bytes.set k x = f.bytes := by
      obtain ⟨h1, h2⟩ := List.getElem?_eq_some_iff.1 hx
      rw [← h2, List.set_getElem_self]
    rw [e1, openP_bytes hf] at ho
    refine ho.mono ?_
    rintro e w' ⟨_, fb, _, _, rfl, _, _, _, hU⟩
    exact ⟨_, _, _, rfl, by simp, by simp, hU⟩
  · obtain ⟨r, hr⟩ := openP_told hf hx hc hxc
    have he := openP_err hr
    rw [hr] at ho
    obtain ⟨p, er⟩ := r
    refine ho.mono ?_
    rintro e w' ⟨rfl, hU⟩
    exact ⟨_, _, _, rfl, by rw [beq_false_of_ne hxc]; simpa using he, by simp [hxc], hU⟩
set_option maxRecDepth 20000 in
set_option maxHeartbeats 4000000 in
theorem toldLaw_calls (c0 : List Value) (x0 : GT.den (.slice gSpec)) (c1 : List Value) (x1 : GT.den gI) (c2 : List Value) (x2 : GT.den gI) (c3 : List Value) (x3 : GT.den (.slice gOp)) (at0 c : Int) (hat : I64 at0) (hcb : 0 ≤ c ∧ c ≤ 255) (W : World) (h0 : Rd W (· < W.heap.size) (.slice gSpec) c0 x0) (h1 : Rd W (· < W.heap.size) gI c1 x1) (h2 : Rd W (· < W.heap.size) gI c2 x2) (h3 : Rd W (· < W.heap.size) (.slice gOp) c3 x3) :
    Calls Try.prog 8 #[GT.val (.slice gSpec) c0, GT.val gI c1, GT.val gI c2, GT.val (.slice gOp) c3, .int .i64 at0, .int .u8 c] W fun e w' => e = .returned (.bool true) ∧ Upd [] W w' := by
  obtain ⟨v, rfl, hr, hs⟩ := spec_row h0
  obtain ⟨rfl, hm⟩ := open_i64 h1
  obtain ⟨rfl, hx⟩ := open_i64 h2
  obtain ⟨vs, rfl, ho, hok⟩ := op_row h3
  show Calls Try.prog 8 #[v, .int .i64 x1, .int .i64 x2, vs, .int .i64 at0, .int .u8 c] W _
  clear h0 h1 h2 h3
  generalize x1 = m at *
  generalize x2 = x at *
  generalize x0.map toSpc = l at *
  generalize x3.map toOp = ops at *
  by_cases hc : creErr l m x = 0
  · have HMD := Lib.hid (lmade_ok _ _ _ vs l m x ops W hr hs hc ho hok)
    obtain ⟨f, hf⟩ : ∃ f, f = ups (newF l m x) ops := ⟨_, rfl⟩
    rw [← hf] at HMD
    clear hr hs hc ho hok hm hx hf
    go_enter Try.func8, Try.ntmps8
    go_wp2_with fail
    refine HMD.out.mono ?_
    rintro e w1 ⟨fb, bv, Ls, rfl, hfb, hF, hfo, hU1⟩
    have HBC := Lib.hid (bytes_calls W.heap.size fb f bv Ls w1 hF hfo)
    have HFO := Lib.hid hfo
    have HU1 := Lib.hid hU1
    clear hfb hF hfo hU1 HMD
    go_wp2_with fail
    refine HBC.out.mono ?_
    rintro e w2 ⟨v', rfl, hrow, hU2⟩
    have HU2 := Lib.hid (HU1.out.then hU2)
    have hnl : 14 ≤ f.bytes.length := by
      unfold Fl.bytes Fl.body
      simp only [List.length_append, List.length_cons, List.length_nil, highL_len]
      omega
    obtain ⟨A, cap, rfl, hc1, hc2, hc3⟩ := hrow.shape
    have hlm := Nat.le_trans hc1 (Nat.le_trans hc2 maxLen_le)
    have d0 : decide (f.bytes.length < 14) = false := decide_eq_false (by omega)
    have HROW := Lib.hid hrow
    have HNL := Lib.hid (And.intro hnl hlm)
    clear hrow hU2 hc1 hc2 hc3 hnl
    obtain ⟨n, hn⟩ : ∃ n, n = f.bytes.length := ⟨_, rfl⟩
    have hn1 : 14 ≤ n := by rw [hn]; exact HNL.out.1
    have hn2 : n ≤ 9223372036854775807 := by rw [hn]; exact HNL.out.2
    obtain ⟨k, hk, hway⟩ : ∃ k, k < n ∧ ((at0 < 0 ∧ k + 1 = n) ∨ (∃ j : Nat, at0 = j ∧ n ≤ j ∧ k + 1 = n) ∨ at0 = (k : Int)) := by
      by_cases g0 : at0 < 0
      · exact ⟨n - 1, by omega, .inl ⟨g0, by omega⟩⟩
      · by_cases g1 : at0.toNat < n
        · exact ⟨at0.toNat, g1, .inr (.inr (by omega))⟩
        · exact ⟨n - 1, by omega, .inr (.inl ⟨at0.toNat, by omega, by omega, by omega⟩)⟩
    obtain ⟨x, hx⟩ : ∃ x, f.bytes[k]? = some x := ⟨_, List.getElem?_eq_getElem (by rw [← hn]; exact hk)⟩
    obtain ⟨g, hA, hcell, hg⟩ := own_cell HROW.out k _ (cb_get hx)
    subst hA
    have hfz : w2.frozen? ⟨g, k, none⟩ = false := own_free HROW.out k
    have HTC := Lib.hid (told_calls HFO.out hx hcb w2 HROW.out)
    have HUS := Lib.hid (HU2.out.setCell (p := ⟨g, k, none⟩) (.inr (Nat.le_trans HU1.out.size hg)) (.int .u8 c))
    have hkI : (k : Int) < (n : Int) := by omega
    generalize hsm : (x == c) = same at HTC
    clear hx HROW HNL HFO HU1 HU2 HBC hg
    rw [← hn] at *
    have HN := Lib.hid hn
    clear hn
    rcases hway with ⟨g0, g1⟩ | ⟨j, rfl, g0, g1⟩ | rfl
    · have d1 : decide (at0 < 0) = true := decide_eq_true g0
      have e1 : wrap64 ((n : Int) - 1) = (k : Int) := by rw [w64 (by unfold I64; omega)]; omega
      have e2 : (n : Int) - 1 = (k : Int) := by omega
      clear g0 g1
      go_wp2_with fail
      refine HTC.out.mono ?_
      rintro e w3 ⟨pp, nn, er, rfl, her, hpp, hU3⟩
      have HU3 := Lib.hid (HUS.out.then hU3)
      clear hU3 hsm
      cases same with
      | true =>
        obtain ⟨pa, rfl⟩ := Option.isSome_iff_exists.1 hpp
        obtain rfl : er = 0 := by simpa using her
        clear her hpp
        go_wp2_with fail
        refine (alive_calls _).mono ?_
        rintro e w4 ⟨rfl, hU4⟩
        have HU4 := Lib.hid (HU3.out.then hU4)
        clear hU4
        go_wp2
        go_ret
        exact ⟨rfl, HU4.out⟩
      | false =>
        obtain rfl : pp = none := by simpa using hpp
        clear hpp
        go_wp2_with fail
        refine (alive_calls _).mono ?_
        rintro e w4 ⟨rfl, hU4⟩
        have HU4 := Lib.hid (HU3.out.then hU4)
        clear hU4
        go_wp2
        go_ret
        exact ⟨rfl, HU4.out⟩
    · have d1 : decide ((j : Int) < 0) = false := decide_eq_false (by omega)
      have d2 : decide (n ≤ j) = true := decide_eq_true g0
      have e1 : wrap64 ((n : Int) - 1) = (k : Int) := by rw [w64 (by unfold I64; omega)]; omega
      have e2 : (n : Int) - 1 = (k : Int) := by omega
      clear g0 g1
      go_wp2_with fail
      refine HTC.out.mono ?_
      rintro e w3 ⟨pp, nn, er, rfl, her, hpp, hU3⟩
      have HU3 := Lib.hid (HUS.out.then hU3)
      clear hU3 hsm
      cases same with
      | true =>
        obtain ⟨pa, rfl⟩ := Option.isSome_iff_exists.1 hpp
        obtain rfl : er = 0 := by simpa using her
        clear her hpp
        go_wp2_with fail
        refine (alive_calls _).mono ?_
        rintro e w4 ⟨rfl, hU4⟩
        have HU4 := Lib.hid (HU3.out.then hU4)
        clear hU4
        go_wp2
        go_ret
        exact ⟨rfl, HU4.out⟩
      | false =>
        obtain rfl : pp = none := by simpa using hpp
        clear hpp
        go_wp2_with fail
        refine (alive_calls _).mono ?_
        rintro e w4 ⟨rfl, hU4⟩
        have HU4 := Lib.hid (HU3.out.then hU4)
        clear hU4
        go_wp2
        go_ret
        exact ⟨rfl, HU4.out⟩
    · have d1 : decide ((k : Int) < 0) = false := decide_eq_false (by omega)
      have d2 : decide (n ≤ k) = false := decide_eq_false (by omega)
      go_wp2_with fail
      refine HTC.out.mono ?_
      rintro e w3 ⟨pp, nn, er, rfl, her, hpp, hU3⟩
      have HU3 := Lib.hid (HUS.out.then hU3)
      clear hU3 hsm
      cases same with
      | true =>
        obtain ⟨pa, rfl⟩ := Option.isSome_iff_exists.1 hpp
        obtain rfl : er = 0 := by simpa using her
        clear her hpp
        go_wp2_with fail
        refine (alive_calls _).mono ?_
        rintro e w4 ⟨rfl, hU4⟩
        have HU4 := Lib.hid (HU3.out.then hU4)
        clear hU4
        go_wp2
        go_ret
        exact ⟨rfl, HU4.out⟩
      | false =>
        obtain rfl : pp = none := by simpa using hpp
        clear hpp
        go_wp2_with fail
        refine (alive_calls _).mono ?_
        rintro e w4 ⟨rfl, hU4⟩
        have HU4 := Lib.hid (HU3.out.then hU4)
        clear hU4
        go_wp2
        go_ret
        exact ⟨rfl, HU4.out⟩
  · have HMD := Lib.hid (lmade_no _ (· < W.heap.size) _ vs l m x ops W hr hs hc)
    have HRC := Lib.hid (fun w (hw : Upd [] W w) => rcre_no _ _ l m x w (hr.upd0 hw) hs hc)
    have hne : (creErr l m x != 0) = true := by simpa using hc
    generalize creErr l m x = r at *
    clear hr hs ho hok hm hx hc
    go_enter Try.func8, Try.ntmps8
    go_wp2_with fail
    refine HMD.out.mono ?_
    rintro e w1 ⟨rfl, hU1⟩
    have HU1 := Lib.hid hU1
    clear hU1
    go_wp2_with fail
    refine (HRC.out _ HU1.out).mono ?_
    rintro e w2 ⟨rfl, hU2⟩
    have HU2 := Lib.hid (HU1.out.then hU2)
    clear hU2
    go_wp2_with fail
    refine (alive_calls _).mono ?_
    rintro e w3 ⟨rfl, hU3⟩
    have HU3 := Lib.hid ((HU2.out.alloc (.cells #[.int .i64 0, .int .i64 0, .slice none 0 0, .slice none 0 0] 38)).then hU3)
    clear hU3
    go_wp2
    go_ret
    exact ⟨rfl, HU3.out⟩
theorem wf_U8 {x : Int} (h : (Lit.int .u8 x).wf = true) : 0 ≤ x ∧ x ≤ 255 := by
  simp [Lit.wf, IntKind.min, IntKind.max, IntKind.bits, IntKind.signed] at h
  omega
theorem archiveTold_calls (c0 : List Value) (x0 : GT.den (.slice gSpec)) (c1 : List Value) (x1 : GT.den gI) (c2 : List Value) (x2 : GT.den gI) (c3 : List Value) (x3 : GT.den (.slice gOp)) (c4 : List Value) (x4 : GT.den gI) (c5 : List Value) (x5 : GT.den (.int .u8)) (W : World) (h0 : Rd W (· < W.heap.size) (.slice gSpec) c0 x0) (h1 : Rd W (· < W.heap.size) gI c1 x1) (h2 : Rd W (· < W.heap.size) gI c2 x2) (h3 : Rd W (· < W.heap.size) (.slice gOp) c3 x3) (h4 : Rd W (· < W.heap.size) gI c4 x4) (h5 : Rd W (· < W.heap.size) (.int .u8) c5 x5) :
    Calls Try.prog 8 #[GT.val (.slice gSpec) c0, GT.val gI c1, GT.val gI c2, GT.val (.slice gOp) c3, GT.val gI c4, GT.val (.int .u8) c5] W fun e w' => e = .returned (.bool true) ∧ Upd [] W w' := by
  obtain ⟨rfl, w4⟩ := h4
  obtain ⟨rfl, w5⟩ := h5
  exact toldLaw_calls c0 x0 c1 x1 c2 x2 c3 x3 x4 x5 (wf_I64 w4) (wf_U8 w5) W h0 h1 h2 h3
end Go.Proofs.Ytdjpcinibgbglaa
